/- spec.FormatInt: the decimal digits of an int. No condition but that an int is an int. -/
import Derived.Test.YtmojjbhjjhdpaaaDoorBase
import Derived.Test.YtmojjbhjjhdpaaaDoorWords
import Derived.Test.YtmojjbhjjhdpaaaDoorFmtP
import Derived.OwnWalk
import Derived.Outline
namespace Go.Proofs.YtmojjbhjjhdpaaaDoor
open Go.RowKit

set_option maxRecDepth 100000 in
set_option maxHeartbeats 400000 in
theorem spec_FormatInt_pos (N : Nat) (w : World) (h0 : 0 < N) (hN : N ≤ 9223372036854775807) :
    Calls Tryd.prog 13 #[.int .i64 N] w fun e w' => e = .returned (.string ⟨(decD N).toArray⟩) ∧ Below w.heap.size w w' := by
  have hz : ((N : Int) == 0) = false := by simp; omega
  have hneg : decide ((N : Int) < 0) = false := by simp
  go_enter Tryd.func13, Tryd.ntmps13
  go_wp2
  go_loopw [0, 3] (fun n v wr => ∃ (m : Nat) (o : List UInt8), n = .int .i64 m ∧ v = .string ⟨o.toArray⟩ ∧ FInv N m o ∧ Below w.heap.size w wr) (fun n _ _ => (intOf n).toNat)
  case atStart => exact ⟨N, [], rfl, rfl, FInv.start h0, Below.refl _ _⟩
  case round =>
    obtain ⟨m, o, rfl, rfl, hinv, hbel⟩ := hrel
    have hmN : m ≤ N := hinv.2.2.1
    have hol : o.length ≤ 20 := hinv.2.2.2.1
    have hsz := hbel.size
    by_cases hm : m = 0
    · subst hm
      have hf := Lib.hid (hinv.1 rfl)
      go_wp2
      go_ret
      exact ⟨by rw [hf.out] <;> rfl, hbel⟩
    · have hmb : ((m : Int) != 0) = true := by simp; omega
      have hst := hinv.step hm (by omega)
      have hcv := fun W : World => one_byte (P := Tryd.prog) W 62 9 5 (48 + (m : Int) % 10) (by omega) (by omega) Tryd.underlying62 Tryd.underlying5 Tryd.underlying9
      have hb10 : ((48 : Int) + (m : Int) % 10).toNat = 48 + m % 10 := by omega
      rw [hb10] at hcv
      clear hb10
      go_wp2
      refine ⟨⟨m / 10, UInt8.ofNat (48 + m % 10) :: o, by go_num, by rw [dig_byte]; exact congrArg Value.string (bytes_append [UInt8.ofNat (48 + m % 10)] o), hst, hbel.alloc hsz _⟩, ?_⟩
      simp [intOf]
      omega

set_option maxRecDepth 100000 in
set_option maxHeartbeats 400000 in
theorem spec_FormatInt_neg (N : Nat) (w : World) (h0 : 0 < N) (hN : N ≤ 9223372036854775808) :
    Calls Tryd.prog 13 #[.int .i64 (-(N : Int))] w fun e w' => e = .returned (.string ⟨(45 :: decD N).toArray⟩) ∧ Below w.heap.size w w' := by
  have hz : (-(N : Int) == 0) = false := by simp; omega
  have hneg : decide (-(N : Int) < 0) = true := by simp; omega
  obtain ⟨X, hX⟩ : ∃ X : Int, X = -(N : Int) := ⟨_, rfl⟩
  rw [← hX] at hz hneg ⊢
  have HX := Lib.hid hX
  have g1 : X < 0 := by omega
  have g2 : -9223372036854775808 ≤ X := by omega
  clear hX
  go_enter Tryd.func13, Tryd.ntmps13
  go_wp2
  go_loopw [0, 3] (fun n v wr => ∃ (x : Int) (m : Nat) (o : List UInt8), n = .int .i64 x ∧ v = .string ⟨o.toArray⟩ ∧ x ≤ 0 ∧ X ≤ x ∧ Hid (x = -(m : Int)) ∧ FInv N m o ∧ Below w.heap.size w wr) (fun n _ _ => (- intOf n).toNat)
  case atStart => exact ⟨X, N, [], rfl, rfl, by omega, by omega, HX.out, FInv.start h0, Below.refl _ _⟩
  case round =>
    obtain ⟨x, m, o, rfl, rfl, hx0, hxX, hxm, hinv, hbel⟩ := hrel
    have hol : o.length ≤ 20 := hinv.2.2.2.1
    have hsz := hbel.size
    by_cases hm : m = 0
    · have hf := Lib.hid (hinv.1 hm)
      obtain rfl : x = 0 := by have := hxm.out; omega
      go_wp2
      go_ret
      exact ⟨by rw [hf.out]; exact congrArg Ending.returned (congrArg Value.string (bytes_append [45] o)), hbel⟩
    · have hmb : (x != 0) = true := by have := hxm.out; simp; omega
      have hst := hinv.step hm hN
      have e1 : x.tmod 10 = -((m % 10 : Nat) : Int) := by rw [hxm.out, Int.neg_tmod]; rfl
      have e2 : x.tdiv 10 = -((m / 10 : Nat) : Int) := by rw [hxm.out, Int.neg_tdiv]; rfl
      have hd : m % 10 < 10 := Nat.mod_lt _ (by omega)
      have hcv := fun W : World => one_byte (P := Tryd.prog) W 62 9 5 (48 + ((m % 10 : Nat) : Int)) (by omega) (by omega) Tryd.underlying62 Tryd.underlying5 Tryd.underlying9
      have hb10 : ((48 : Int) + ((m % 10 : Nat) : Int)).toNat = 48 + m % 10 := by omega
      rw [hb10] at hcv
      have hq : m / 10 ≤ m := Nat.div_le_self _ _
      have hq2 : (m : Int) ≤ -X := by have := hxm.out; omega
      have hq3 : m / 10 < m := by omega
      have hmx := hxm.out
      have hlt : Hid (((m / 10 : Nat) : Int) < -x) := by show ((m / 10 : Nat) : Int) < -x; omega
      clear hb10 hmx
      generalize hD : m % 10 = D at *
      generalize hQ : m / 10 = Q at *
      clear hD hQ
      by_cases hD0 : D = 0
      · subst hD0
        clear hcv
        have hcv := fun W : World => one_byte (P := Tryd.prog) W 62 9 5 48 (by omega) (by omega) Tryd.underlying62 Tryd.underlying5 Tryd.underlying9
        go_wp2
        refine ⟨⟨-(Q : Int), Q, UInt8.ofNat 48 :: o, by go_num, congrArg Value.string (bytes_append [UInt8.ofNat 48] o), by omega, by omega, rfl, hst, hbel.alloc hsz _⟩, ?_⟩
        have := hlt.out
        simp [intOf]
        omega
      · have hD1 : 0 < D := by omega
        clear hD0
        go_wp2
        refine ⟨⟨-(Q : Int), Q, UInt8.ofNat (48 + D) :: o, by go_num, by rw [dig_byte]; exact congrArg Value.string (bytes_append [UInt8.ofNat (48 + D)] o), by omega, by omega, rfl, hst, hbel.alloc hsz _⟩, ?_⟩
        have := hlt.out
        simp [intOf]
        omega

theorem spec_FormatInt_any (n : Int) (w : World) (h1 : -9223372036854775808 ≤ n) (h2 : n ≤ 9223372036854775807) :
    Calls Tryd.prog 13 #[.int .i64 n] w fun e w' => e = .returned (.string ⟨(fmtI n).toArray⟩) ∧ Below w.heap.size w w' := by
  rcases Int.lt_trichotomy n 0 with h | h | h
  · obtain ⟨N, rfl⟩ : ∃ N : Nat, n = -(N : Int) := ⟨n.natAbs, by omega⟩
    rw [fmtI_neg (by omega)]
    exact spec_FormatInt_neg N w (by omega) (by omega)
  · subst h
    go_enter Tryd.func13, Tryd.ntmps13
    go_wp2
    go_ret
    exact ⟨by rw [fmtI, if_neg (by omega), show (0 : Int).natAbs = 0 from rfl, decD_small (by omega)] <;> rfl, Below.refl _ _⟩
  · obtain ⟨N, rfl⟩ := Int.eq_ofNat_of_zero_le (show 0 ≤ n by omega)
    rw [fmtI_pos]
    exact spec_FormatInt_pos N w (by omega) (by omega)
end Go.Proofs.YtmojjbhjjhdpaaaDoor
