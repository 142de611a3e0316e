/- The greatest common divisor: both texts. The numbers are ints but the least one. -/
import Derived.Test.YtmojjbhjjhdpaaaDoorBase
import Derived.Deep.RegionHeld3
import Derived.Outline
namespace Go.Proofs.YtmojjbhjjhdpaaaDoor
open Go.RowKit

theorem gcd_step (x y : Int) : Int.gcd y (x.tmod y) = Int.gcd x y := by
  unfold Int.gcd
  rw [Int.natAbs_tmod, Nat.gcd_comm, ← Nat.gcd_rec, Nat.gcd_comm]
theorem tmod_bd (x y : Int) (hy : y ≠ 0) : (x.tmod y).natAbs < y.natAbs := by
  rw [Int.natAbs_tmod]
  exact Nat.mod_lt _ (by omega)

set_option maxRecDepth 100000 in
set_option maxHeartbeats 400000 in
theorem impl_gcd_any (a b : Int) (w : World) (ha1 : -9223372036854775807 ≤ a) (ha2 : a ≤ 9223372036854775807) (hb1 : -9223372036854775807 ≤ b) (hb2 : b ≤ 9223372036854775807) :
    Calls Tryd.prog 101 #[.int .i64 a, .int .i64 b] w fun e w' => e = .returned (.int .i64 (Int.gcd a b)) ∧ Below w.heap.size w w' := by
  go_enter Tryd.func101, Tryd.ntmps101
  go_wp2
  go_loopw [0, 1] (fun p q wr => ∃ x y : Int, p = .int .i64 x ∧ q = .int .i64 y ∧ -9223372036854775807 ≤ x ∧ x ≤ 9223372036854775807 ∧ -9223372036854775807 ≤ y ∧ y ≤ 9223372036854775807 ∧ Hid (Int.gcd x y = Int.gcd a b) ∧ Below w.heap.size w wr) (fun _ q _ => (intOf q).natAbs)
  case atStart => exact ⟨a, b, rfl, rfl, ha1, ha2, hb1, hb2, rfl, Below.refl _ _⟩
  case round =>
    obtain ⟨x, y, rfl, rfl, hx1, hx2, hy1, hy2, hg, hbel⟩ := hrel
    by_cases hy : y = 0
    · subst hy
      have hf : Hid ((Int.gcd a b : Int) = (x.natAbs : Int)) := by show _ = _; rw [← hg.out, Int.gcd_zero_right]
      by_cases hx : 0 ≤ x
      · have hm : Hid ((x.natAbs : Int) = x) := by show _ = _; omega
        by_cases hx0 : x = 0
        · subst hx0
          go_wp2
          all_goals
            go_ret
            exact ⟨by rw [hf.out] <;> rfl, hbel⟩
        · have hx' : -x ≤ x := by omega
          go_wp2
          all_goals
            go_ret
            exact ⟨by rw [hf.out, hm.out] <;> rfl, hbel⟩
      · have hm : Hid ((x.natAbs : Int) = -x) := by show _ = _; omega
        go_wp2
        all_goals
          go_ret
          exact ⟨by rw [hf.out, hm.out] <;> rfl, hbel⟩
    · have hyb : (y != 0) = true := by simpa using hy
      have hyb2 : (y == 0) = false := by simpa using hy
      have hst : Hid (Int.gcd y (x.tmod y) = Int.gcd a b) := (gcd_step x y).trans hg.out
      have hlt := tmod_bd x y hy
      obtain ⟨m, hm⟩ : ∃ m, x.tmod y = m := ⟨_, rfl⟩
      rw [hm] at hst hlt
      have hw : IntKind.i64.wrap m = m := IntWalk.i64_in _ (by omega)
      go_wp2_with fail
      go_region_held3 (fun _ => True) (trivial) (fail)
      clear hw hm
      go_wp2
      refine ⟨⟨y, m, rfl, rfl, hy1, hy2, by omega, by omega, hst, hbel.drew⟩, ?_⟩
      simpa [intOf] using hlt

set_option maxRecDepth 100000 in
set_option maxHeartbeats 400000 in
theorem l2Gcd_any (a b : Nat) (w : World) (ha2 : a ≤ 9223372036854775807) (hb2 : b ≤ 9223372036854775807) :
    Calls Tryd.prog 99 #[.int .i64 a, .int .i64 b] w fun e w' => e = .returned (.int .i64 (Nat.gcd a b)) ∧ w = w' := by
  go_enter Tryd.func99, Tryd.ntmps99
  go_wp2
  go_loop [0, 1] (fun p q => ∃ x y : Nat, p = .int .i64 x ∧ q = .int .i64 y ∧ x ≤ 9223372036854775807 ∧ y ≤ 9223372036854775807 ∧ Hid (Nat.gcd x y = Nat.gcd a b)) (fun _ q => (intOf q).natAbs)
  case atStart => exact ⟨a, b, rfl, rfl, ha2, hb2, rfl⟩
  case round =>
    obtain ⟨x, y, rfl, rfl, hx2, hy2, hg⟩ := hrel
    by_cases hy : y = 0
    · subst hy
      have hf : Hid (Nat.gcd a b = x) := by show _ = _; rw [← hg.out, Nat.gcd_zero_right]
      go_wp2
      go_ret
      exact ⟨by rw [hf.out] <;> rfl, rfl⟩
    · have hyb : ((y : Int) != 0) = true := by simp; omega
      have hy1 : 0 < y := by omega
      have hst : Hid (Nat.gcd y (x % y) = Nat.gcd a b) := by show _ = _; rw [← hg.out, Nat.gcd_comm x y, Nat.gcd_rec y x, Nat.gcd_comm]
      have hlt : x % y < y := Nat.mod_lt _ hy1
      have hm : (x : Int) % (y : Int) = ((x % y : Nat) : Int) := by omega
      go_wp2
      refine ⟨⟨y, x % y, rfl, by rw [hm], hy2, by omega, hst⟩, ?_⟩
      rw [hm]
      show (((x % y : Nat) : Int)).natAbs < ((y : Nat) : Int).natAbs
      exact hlt

theorem l2Abs_any (a : Int) (w : World) (h1 : -9223372036854775807 ≤ a) (h2 : a ≤ 9223372036854775807) :
    Calls Tryd.prog 100 #[.int .i64 a] w fun e w' => e = .returned (.int .i64 (a.natAbs : Nat)) ∧ w = w' := by
  by_cases h : 0 ≤ a
  · obtain ⟨n, rfl⟩ := Int.eq_ofNat_of_zero_le h
    go_enter Tryd.func100, Tryd.ntmps100
    go_wp2
    go_ret
    exact ⟨by rw [Int.natAbs_natCast] <;> rfl, rfl⟩
  · have hm : Hid ((a.natAbs : Int) = -a) := by show _ = _; omega
    go_enter Tryd.func100, Tryd.ntmps100
    go_wp2
    go_ret
    exact ⟨by rw [hm.out] <;> rfl, rfl⟩
end Go.Proofs.YtmojjbhjjhdpaaaDoor
