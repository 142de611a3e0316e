/- What the laws draw: l1New, l1Below, l1PickInt, l1Text, l1Num. What is drawn is not said, but for its bounds. No condition. -/
import Derived.Test.YtmojjbhjjhdpaaaDoorDraw
import Derived.Test.YtmojjbhjjhdpaaaDoorEnc
import Derived.OwnWalk
namespace Go.Proofs.YtmojjbhjjhdpaaaDoor
open Go.RowKit Go.Deep

/-- The cursor is made. -/
def DrC (w : World) (e : Ending) (w' : World) : Prop := e = .returned (.pointer (some ⟨w.heap.size, 0, none⟩)) ∧ Cur w' w.heap.size ∧ Below w.heap.size w w'

set_option maxRecDepth 100000 in
set_option maxHeartbeats 1000000 in
theorem l1New_any (A : Option Addr) (n c : Nat) (w : World) (hr : RdC w w.heap.size A n) (hn : n ≤ 1048576) :
    Calls Tryd.prog 92 #[.slice A n c] w (DrC w) := by
  go_enter Tryd.func92, Tryd.ntmps92
  go_wp2_with fail
  go_loopw [3, 4] (fun h i wr => ∃ (H : Int) (k : Nat), h = .int .i64 H ∧ i = .int .i64 k ∧ 0 ≤ H ∧ H ≤ 1073741824 ∧ k ≤ n ∧ k ≤ 4000 ∧ wr = w) (fun _ i _ => n - (intOf i).toNat)
  case atStart => exact ⟨_, 0, rfl, rfl, by omega, by omega, by omega, by omega, rfl⟩
  case round =>
    obtain ⟨H, k, rfl, rfl, h0, h1, hk, hk4, rfl⟩ := hrel
    by_cases hlt : k < n
    · by_cases h4 : k < 4000
      · have g1 : (0 : Int) ≤ (k : Int) := by omega
        have g2 : (k : Int) < (n : Int) := by omega
        have g3 : (k : Int).toNat = k := by omega
        have g4 : (k : Int) < 4000 := by omega
        obtain ⟨b, o, x, rfl, hb, hc, hx0, hx1⟩ := hr k hlt
        have hY : ∀ z, 0 ≤ bits .and .i64 z 1073741823 ∧ bits .and .i64 z 1073741823 ≤ 1073741824 := fun z => by rw [and30]; omega
        go_wp2_with fail
        refine ⟨⟨_, k + 1, rfl, by go_num, (hY _).1, (hY _).2, by omega, by omega, trivial⟩, ?_⟩
        simp [intOf]
        omega
      · have g2 : (k : Int) < (n : Int) := by omega
        have g4 : ¬ (k : Int) < 4000 := by omega
        go_wp2_with fail
        go_ret
        refine ⟨rfl, ⟨⟨A, n, c, 0, H, by simp [go_sem], by simp [go_sem], by simp [go_sem], hr.keep fun b hb => ?_, by omega, by omega, hn⟩, fun i => by simp [go_sem], by simp⟩, (Below.refl _ _).alloc (Nat.le_refl _) _⟩
        exact ((Below.refl _ _).alloc (Nat.le_refl _) _).block b hb
    · have g2 : ¬ (k : Int) < (n : Int) := by omega
      go_wp2_with fail
      go_ret
      refine ⟨rfl, ⟨⟨A, n, c, 0, H, by simp [go_sem], by simp [go_sem], by simp [go_sem], hr.keep fun b hb => ?_, by omega, by omega, hn⟩, fun i => by simp [go_sem], by simp⟩, (Below.refl _ _).alloc (Nat.le_refl _) _⟩
      exact ((Below.refl _ _).alloc (Nat.le_refl _) _).block b hb

set_option maxRecDepth 100000 in
set_option maxHeartbeats 1000000 in
theorem l1Below_any (q : Nat) (n : Int) (w : World) (hc : Cur w q) (hn : n ≤ 9223372036854775807) :
    Calls Tryd.prog 95 #[.pointer (some ⟨q, 0, none⟩), .int .i64 n] w (DrI (fun x => 0 ≤ x ∧ (x < n ∨ x = 0)) q w) := by
  by_cases h0 : n ≤ 0
  · go_enter Tryd.func95, Tryd.ntmps95
    go_wp2_with fail
    go_ret
    exact ⟨0, rfl, ⟨by omega, .inr rfl⟩, hc, Chg.refl _ _ _⟩
  · have hz : ¬ n = 0 := by omega
    by_cases h1 : n ≤ 256
    · go_enter Tryd.func95, Tryd.ntmps95
      go_wp2_with fail
      refine (l1Byte_any q w hc).mono ?_
      rintro e w1 ⟨x, rfl, ⟨hx0, hx1⟩, hc1, hg1⟩
      have e1 : x.tmod n = x % n := Int.tmod_eq_emod_of_nonneg hx0
      have r0 : 0 ≤ x % n := Int.emod_nonneg _ hz
      have r1 : x % n < n := Int.emod_lt_of_pos _ (by omega)
      have e2 : IntKind.i64.wrap (x % n) = x % n := IntWalk.i64_in _ (by omega)
      go_wp2_with fail
      go_ret
      exact ⟨x % n, rfl, ⟨r0, .inl r1⟩, hc1, hg1⟩
    · go_enter Tryd.func95, Tryd.ntmps95
      go_wp2_with fail
      refine (l1Byte_any q w hc).mono ?_
      rintro e w1 ⟨x, rfl, ⟨hx0, hx1⟩, hc1, hg1⟩
      go_wp2_with fail
      refine (l1Byte_any q w1 hc1).mono ?_
      rintro e w2 ⟨y, rfl, ⟨hy0, hy1⟩, hc2, hg2⟩
      go_wp2_with fail
      refine (l1Byte_any q w2 hc2).mono ?_
      rintro e w3 ⟨z, rfl, ⟨hz0, hz1⟩, hc3, hg3⟩
      go_wp2_with fail
      refine (l1Byte_any q w3 hc3).mono ?_
      rintro e w4 ⟨u, rfl, ⟨hu0, hu1⟩, hc4, hg4⟩
      obtain ⟨X, hX⟩ : ∃ X, x * 16777216 + y * 65536 + z * 256 + u = X := ⟨_, rfl⟩
      have hX0 : 0 ≤ X := by omega
      have e1 : X.tmod n = X % n := Int.tmod_eq_emod_of_nonneg hX0
      have r0 : 0 ≤ X % n := Int.emod_nonneg _ hz
      have r1 : X % n < n := Int.emod_lt_of_pos _ (by omega)
      have e2 : IntKind.i64.wrap (X % n) = X % n := IntWalk.i64_in _ (by omega)
      go_wp2_with fail
      go_ret
      exact ⟨X % n, rfl, ⟨r0, .inl r1⟩, hc4, ((hg1.trans hg2).trans hg3).trans hg4⟩

set_option maxRecDepth 100000 in
set_option maxHeartbeats 1000000 in
theorem l1PickInt_any (q b o n c : Nat) (P : Int → Prop) (w : World) (hc : Cur w q) (hb : b < w.heap.size) (hbq : b ≠ q) (hn : 0 < n) (hn2 : n ≤ 1048576) (hcell : ∀ k, k < n → ∃ z, w.cell? ⟨b, o + k, none⟩ = some (.int .i64 z) ∧ P z) :
    Calls Tryd.prog 103 #[.pointer (some ⟨q, 0, none⟩), .slice (some ⟨b, o, none⟩) n c] w (DrI P q w) := by
  go_enter Tryd.func103, Tryd.ntmps103
  go_wp2_with fail
  refine (l1Below_any q n w hc (by omega)).mono ?_
  rintro e w1 ⟨x, rfl, ⟨hx0, hx1⟩, hc1, hg1⟩
  obtain ⟨k, rfl⟩ := Int.eq_ofNat_of_zero_le hx0
  have hk : k < n := by omega
  have g2 : (k : Int) < (n : Int) := by omega
  have g3 : (k : Int).toNat = k := by omega
  obtain ⟨z, hz, hP⟩ := hcell k hk
  have d0 : w1.cell? ⟨b, o + k, none⟩ = some (.int .i64 z) := (World.cell?_of_block (hg1.block b hb (by omega))).trans hz
  go_wp2_with fail
  go_ret
  exact ⟨z, rfl, hP, hc1, hg1⟩
end Go.Proofs.YtmojjbhjjhdpaaaDoor
