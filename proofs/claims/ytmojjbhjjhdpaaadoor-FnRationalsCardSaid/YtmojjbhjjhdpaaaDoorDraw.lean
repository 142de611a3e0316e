/- The cursor that the laws draw from: l1New, l1Byte, l1Below. What is drawn is not said, but for its bounds. No condition. -/
import Derived.Test.YtmojjbhjjhdpaaaDoorInts
import Derived.Test.YtmojjbhjjhdpaaaDoorLInv
import Derived.Laws.BitsLemmas
import Derived.Deep.RegionHeld3
import Derived.Deep.DeepCutAuto
namespace Go.Proofs.YtmojjbhjjhdpaaaDoor
open Go.RowKit Go.Deep

theorem and255 (n : Int) : bits .and .i64 n 255 = n % 256 := by
  have h127 : (BitVec.ofInt 64 255).toNat = 2 ^ 8 - 1 := by decide
  have key : (BitVec.ofInt 64 n &&& BitVec.ofInt 64 255).toNat = (n % ((2 ^ 64 : Nat) : Int)).toNat % 2 ^ 8 := by
    rw [BitVec.toNat_and, BitVec.toNat_ofInt, h127, Nat.and_two_pow_sub_one_eq_mod]
  show IntKind.i64.wrap ((BitVec.ofInt 64 n &&& BitVec.ofInt 64 255).toNat : Nat) = n % 256
  rw [key, IntKind.wrap_i64]
  omega
theorem and30 (n : Int) : bits .and .i64 n 1073741823 = n % 1073741824 := by
  have h127 : (BitVec.ofInt 64 1073741823).toNat = 2 ^ 30 - 1 := by decide
  have key : (BitVec.ofInt 64 n &&& BitVec.ofInt 64 1073741823).toNat = (n % ((2 ^ 64 : Nat) : Int)).toNat % 2 ^ 30 := by
    rw [BitVec.toNat_and, BitVec.toNat_ofInt, h127, Nat.and_two_pow_sub_one_eq_mod]
  show IntKind.i64.wrap ((BitVec.ofInt 64 n &&& BitVec.ofInt 64 1073741823).toNat : Nat) = n % 1073741824
  rw [key, IntKind.wrap_i64]
  omega
def I64 (z : Int) : Prop := -9223372036854775808 ≤ z ∧ z ≤ 9223372036854775807
theorem i64_wrap (z : Int) : I64 (wrap64 z) := by
  unfold I64 wrap64
  omega
/-- A slice of bytes that lies below block B. -/
def RdC (w : World) (B : Nat) (A : Option Addr) (n : Nat) : Prop := ∀ k, k < n → ∃ b o x, A = some ⟨b, o, none⟩ ∧ b < B ∧ w.cell? ⟨b, o + k, none⟩ = some (.int .u8 x) ∧ 0 ≤ x ∧ x < 256
theorem RdC.keep {w w' : World} {B n : Nat} {A : Option Addr} (h : RdC w B A n) (hk : ∀ b, b < B → w'.heap[b]? = w.heap[b]?) : RdC w' B A n := fun k hlt => by
  obtain ⟨b, o, x, hA, hb, hc, hx⟩ := h k hlt
  exact ⟨b, o, x, hA, hb, (World.cell?_of_block (hk b hb)).trans hc, hx⟩
theorem RdC.more {w : World} {B B' n : Nat} {A : Option Addr} (h : RdC w B A n) (hB : B ≤ B') : RdC w B' A n := fun k hlt => by
  obtain ⟨b, o, x, hA, hb, hc⟩ := h k hlt
  exact ⟨b, o, x, hA, by omega, hc⟩
/-- The cursor in block q. -/
structure Cur (w : World) (q : Nat) : Prop where
  ex : ∃ (A : Option Addr) (n c : Nat) (i h : Int), w.cell? ⟨q, 0, none⟩ = some (.slice A n c) ∧ w.cell? ⟨q, 1, none⟩ = some (.int .i64 i) ∧ w.cell? ⟨q, 2, none⟩ = some (.int .i64 h) ∧ RdC w q A n ∧ 0 ≤ i ∧ i ≤ n ∧ n ≤ 1048576
  fz : ∀ i, w.frozen? ⟨q, i, none⟩ = false
  lt : q < w.heap.size
theorem Cur.keep {w w' : World} {q : Nat} (h : Cur w q) (hk : ∀ b, b ≤ q → w'.heap[b]? = w.heap[b]?) (hs : w.heap.size ≤ w'.heap.size) : Cur w' q := by
  obtain ⟨⟨A, n, c, i, hh, c0, c1, c2, hr, hi⟩, hf, hl⟩ := h
  have e := hk q (Nat.le_refl _)
  exact ⟨⟨A, n, c, i, hh, (World.cell?_of_block e).trans c0, (World.cell?_of_block e).trans c1, (World.cell?_of_block e).trans c2, hr.keep fun b hb => hk b (by omega), hi⟩, fun i => (World.frozen?_of_block e).trans (hf i), Nat.lt_of_lt_of_le hl hs⟩
theorem Cur.next {w w' : World} {q : Nat} (h : Cur w q) (b : Below w.heap.size w w') : Cur w' q := h.keep (fun k hk => b.block k (Nat.lt_of_le_of_lt hk h.lt)) b.size
theorem Cur.drew {w : World} {q : Nat} (h : Cur w q) : Cur w.drew q := h.next (Below.refl _ _).drew
theorem Cur.drewN {w : World} {q : Nat} (h : Cur w q) (k : Nat) : Cur (w.drewN k) q := h.next (below_drewN (Below.refl _ _) k)
theorem Chg.setCell {w : World} {q i : Nat} {x : Value} : Chg q (q + 1) w (w.setCell ⟨q, i, none⟩ x) :=
  ⟨rfl, rfl, rfl, by simp [World.setCell], fun k _ hn => Below.heap_setCell _ _ _ k (by show ¬ k = q; omega)⟩
theorem Chg.drewN {lo hi : Nat} {w : World} (k : Nat) : Chg lo hi w (w.drewN k) := by
  have h := below_drewN (Below.refl w.heap.size w) k
  exact ⟨h.os, h.tape, h.output, h.size, fun i hi _ => h.block i hi⟩
/-- Behind a change, blocks may come. -/
theorem Chg.after {lo hi : Nat} {w w1 w2 : World} (h : Chg lo hi w w1) (b : Below w.heap.size w1 w2) : Chg lo hi w w2 :=
  ⟨b.os.trans h.os, b.tape.trans h.tape, b.output.trans h.output, Nat.le_trans h.size b.size, fun i hi hn => (b.block i hi).trans (h.block i hi hn)⟩
theorem Cur.set {w : World} {q j : Nat} {x : Int} {A : Option Addr} {n c : Nat} {i h : Int} (hc : Cur w q) (c0 : w.cell? ⟨q, 0, none⟩ = some (.slice A n c)) (c1 : w.cell? ⟨q, 1, none⟩ = some (.int .i64 i)) (c2 : w.cell? ⟨q, 2, none⟩ = some (.int .i64 h))
    (hj : j = 1 ∧ 0 ≤ x ∧ x ≤ n ∨ j = 2) : Cur (w.setCell ⟨q, j, none⟩ (.int .i64 x)) q := by
  obtain ⟨⟨A', n', c', i', h', d0, d1, d2, hr, hi⟩, hf, hl⟩ := hc
  rw [c0] at d0
  injection d0 with d0
  injection d0 with e1 e2 e3
  subst e1 e2 e3
  rw [c1] at d1
  injection d1 with d1
  injection d1 with _ e4
  subst e4
  have hrr : RdC (w.setCell ⟨q, j, none⟩ (.int .i64 x)) q A n := hr.keep fun b hb => Below.heap_setCell _ _ _ b (by show ¬ b = q; omega)
  have hsz : q < (w.setCell ⟨q, j, none⟩ (.int .i64 x)).heap.size := by simpa [World.setCell] using hl
  rcases hj with ⟨rfl, hx⟩ | rfl
  · exact ⟨⟨A, n, c, x, h, (cell_set_other (by omega)).trans c0, cell_set_same c1, (cell_set_other (by omega)).trans c2, hrr, hx.1, hx.2, hi.2.2⟩, fun i => frozen_set.trans (hf i), hsz⟩
  · exact ⟨⟨A, n, c, i, x, (cell_set_other (by omega)).trans c0, (cell_set_other (by omega)).trans c1, cell_set_same c2, hrr, hi⟩, fun i => frozen_set.trans (hf i), hsz⟩
/-- A number drawn, and the cursor moved on. -/
def DrI (P : Int → Prop) (q : Nat) (w : World) (e : Ending) (w' : World) : Prop := ∃ x : Int, e = .returned (.int .i64 x) ∧ P x ∧ Cur w' q ∧ Chg q (q + 1) w w'

set_option maxRecDepth 100000 in
set_option maxHeartbeats 1000000 in
theorem l1Byte_any (q : Nat) (w : World) (hc : Cur w q) :
    Calls Tryd.prog 126 #[.pointer (some ⟨q, 0, none⟩)] w (DrI (fun x => 0 ≤ x ∧ x ≤ 255) q w) := by
  obtain ⟨A, n, c, i, h, c0, c1, c2, hr, hi0, hin, hn⟩ := hc.ex
  have f2 := hc.fz 2
  go_enter Tryd.func126, Tryd.ntmps126
  go_wp2_with fail
  generalize (wrap64 (wrap64 (h * 6364136223846793005) + 1442695040888963407)) = H
  have HC1 := Lib.hid (hc.set (j := 2) (x := H) c0 c1 c2 (.inr rfl))
  have HG1 : Hid (Chg q (q + 1) w (w.setCell ⟨q, 2, none⟩ (.int .i64 H))) := Chg.setCell
  have d0 : (w.setCell ⟨q, 2, none⟩ (.int .i64 H)).cell? ⟨q, 0, none⟩ = some (.slice A n c) := (cell_set_other (by omega)).trans c0
  have d1 : (w.setCell ⟨q, 2, none⟩ (.int .i64 H)).cell? ⟨q, 1, none⟩ = some (.int .i64 i) := (cell_set_other (by omega)).trans c1
  have d2 : (w.setCell ⟨q, 2, none⟩ (.int .i64 H)).cell? ⟨q, 2, none⟩ = some (.int .i64 H) := cell_set_same c2
  have HR : Hid (RdC (w.setCell ⟨q, 2, none⟩ (.int .i64 H)) q A n) := hr.keep fun b hb => Below.heap_setCell _ _ _ b (by show ¬ b = q; omega)
  clear hc c0 c1 c2 hr f2
  generalize w.setCell ⟨q, 2, none⟩ (.int .i64 H) = w1 at HC1 HG1 d0 d1 d2 HR ⊢
  go_quiet (fail)
  obtain ⟨X, hX⟩ : ∃ X, bits BinOp.and IntKind.i64 (bits BinOp.xor IntKind.i64 (H / 8589934592) (H / 35184372088832)) 255 = X := ⟨_, rfl⟩
  have hx0 : 0 ≤ X ∧ X ≤ 255 := by rw [← hX, and255]; omega
  rw [hX]
  clear hX
  have HC2 := Lib.hid (HC1.out.drewN nq)
  have HG2 := Lib.hid (HG1.out.trans (Chg.drewN nq))
  have e0 : (w1.drewN nq).cell? ⟨q, 0, none⟩ = some (.slice A n c) := d0
  have e1 : (w1.drewN nq).cell? ⟨q, 1, none⟩ = some (.int .i64 i) := d1
  have e2 : (w1.drewN nq).cell? ⟨q, 2, none⟩ = some (.int .i64 H) := d2
  have HR2 : Hid (RdC (w1.drewN nq) q A n) := HR.out.keep fun b hb => rfl
  clear d0 d1 d2 HC1 HG1 HR
  generalize w1.drewN nq = w2 at HC2 HG2 e0 e1 e2 HR2 ⊢
  obtain ⟨k, rfl⟩ := Int.eq_ofNat_of_zero_le hi0
  go_wp2_with fail
  by_cases hlt : k < n
  · have g1 : (0 : Int) ≤ (k : Int) := by omega
    have g2 : (k : Int) < (n : Int) := by omega
    have g3 : (k : Int).toNat = k := by omega
    obtain ⟨b, o, x, rfl, hb, hc, hx⟩ := HR2.out k hlt
    go_quiet (fail)
    have HC3 := Lib.hid (HC2.out.drewN nq)
    have HG3 := Lib.hid (HG2.out.trans (Chg.drewN nq))
    have d0 : (w2.drewN nq).cell? ⟨q, 0, none⟩ = some (.slice (some ⟨b, o, none⟩) n c) := e0
    have d1 : (w2.drewN nq).cell? ⟨q, 1, none⟩ = some (.int .i64 (k : Int)) := e1
    have d2 : (w2.drewN nq).cell? ⟨q, 2, none⟩ = some (.int .i64 H) := e2
    have d3 : (w2.drewN nq).cell? ⟨b, o + k, none⟩ = some (.int .u8 x) := hc
    clear e0 e1 e2 hc HC2 HG2 HR2
    generalize w2.drewN nq = w3 at HC3 HG3 d0 d1 d2 d3 ⊢
    go_wp2_with fail
    go_quiet (fail)
    have HC4 := Lib.hid (HC3.out.drewN nq)
    have HG4 := Lib.hid (HG3.out.trans (Chg.drewN nq))
    have e0 : (w3.drewN nq).cell? ⟨q, 0, none⟩ = some (.slice (some ⟨b, o, none⟩) n c) := d0
    have e1 : (w3.drewN nq).cell? ⟨q, 1, none⟩ = some (.int .i64 (k : Int)) := d1
    have e2 : (w3.drewN nq).cell? ⟨q, 2, none⟩ = some (.int .i64 H) := d2
    clear d0 d1 d2 d3 HC3 HG3
    generalize w3.drewN nq = w4 at HC4 HG4 e0 e1 e2 ⊢
    have hY : 0 ≤ bits .and .i64 (X + x) 255 ∧ bits .and .i64 (X + x) 255 ≤ 255 := by rw [and255]; omega
    have f1 := HC4.out.fz 1
    trace_state
    go_wp2_with fail
    trace_state
    have HC5 := Lib.hid (HC4.out.set (j := 1) (x := (k : Int) + 1) e0 e1 e2 (.inl ⟨rfl, by omega, by omega⟩))
    go_ret
    exact ⟨_, rfl, hY, HC5.out, HG4.out.trans Chg.setCell⟩
  · have g2 : ¬ (k : Int) < (n : Int) := by omega
    go_quiet (fail)
    have HC3 := Lib.hid (HC2.out.drewN nq)
    have HG3 := Lib.hid (HG2.out.trans (Chg.drewN nq))
    go_wp2_with fail
    go_ret
    exact ⟨_, rfl, hx0, HC3.out, HG3.out⟩
end Go.Proofs.YtmojjbhjjhdpaaaDoor
