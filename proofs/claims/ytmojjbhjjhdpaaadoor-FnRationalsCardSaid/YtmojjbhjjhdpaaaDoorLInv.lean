/- What a function keeps that fills a table's rows, one by one: its argument's box, the result's cell, the table's own cells. Of no program but for the types' numbers. -/
import Derived.Test.YtmojjbhjjhdpaaaDoorApp
import Derived.Test.YtmojjbhjjhdpaaaDoorKn
namespace Go.Proofs.YtmojjbhjjhdpaaaDoor
open Go.RowKit Go.Deep

theorem own_at {W : World} {g : Nat} {e : TypeId} (h : W.heap[g]? = some (.cells #[] e (0, 0))) : W.ownsRow 0 e 1 (.slice (some ⟨g, 0, none⟩) 0 0) 0 [] := ⟨by simp, .inr ⟨g, 0, #[], rfl, Nat.zero_le _, h, Nat.le_refl _, by unfold maxLen; omega, rfl, by simp⟩⟩
theorem hat_ge {wr : World} {v1 : Value} {H : Nat} (hat : v1.ownBlock = (Value.slice (some ⟨wr.heap.size, 0, none⟩) 0 0).ownBlock ∨ v1.ownBlock = some H) (hH : wr.heap.size ≤ H) : ∀ g, v1.ownBlock = some g → wr.heap.size ≤ g := fun g hg => by
  rcases hat with h | h
  · rw [h] at hg
    simp [Value.ownBlock] at hg
    omega
  · rw [h] at hg
    simp at hg
    omega
/-- Behind the argument's box tb, the result's cell rb and the table's own box xb, all below lo, lie the rows R in the slice v, which xb's third cell holds. -/
structure LInv (w : World) (tb rb xb lo : Nat) (t0 t1 t2 x0 x1 : Value) (R : List (List Int)) (v : Value) (W : World) : Prop where
  own : OwnR W lo W.heap.size v R
  bel : Below w.heap.size w W
  size : lo ≤ W.heap.size
  hw : w.heap.size ≤ xb
  htb : tb < lo
  hrb : rb < lo
  hxb : xb < lo
  ntb : tb ≠ xb
  nrb : rb ≠ xb
  c0 : W.cell? ⟨tb, 0, none⟩ = some t0
  c1 : W.cell? ⟨tb, 1, none⟩ = some t1
  c2 : W.cell? ⟨tb, 2, none⟩ = some t2
  x0 : W.cell? ⟨xb, 0, none⟩ = some x0
  x1 : W.cell? ⟨xb, 1, none⟩ = some x1
  x2 : W.cell? ⟨xb, 2, none⟩ = some v
  fx : W.frozen? ⟨xb, 2, none⟩ = false
  res : ∀ i, i < 3 → (W.cell? ⟨rb, i, none⟩).isSome = true ∧ W.frozen? ⟨rb, i, none⟩ = false
theorem cell_set_other {W : World} {b i b' i' : Nat} {x : Value} (h : ¬ (b = b' ∧ i = i')) : (W.setCell ⟨b', i', none⟩ x).cell? ⟨b, i, none⟩ = W.cell? ⟨b, i, none⟩ := World.cell?_setCell_other W _ _ x (fun e => h (by injection e with h1 h2; exact ⟨h1.symm, h2.symm⟩))
theorem cell_set_same {W : World} {b i : Nat} {x y : Value} (h : W.cell? ⟨b, i, none⟩ = some y) : (W.setCell ⟨b, i, none⟩ x).cell? ⟨b, i, none⟩ = some x := by simp [go_sem, h]
theorem frozen_set {W : World} {b i b' i' : Nat} {x : Value} : (W.setCell ⟨b', i', none⟩ x).frozen? ⟨b, i, none⟩ = W.frozen? ⟨b, i, none⟩ := by simp [go_sem]
theorem LInv.push {w W w2 : World} {tb rb xb lo : Nat} {t0 t1 t2 x0 x1 v v' : Value} {R R' : List (List Int)} (h : LInv w tb rb xb lo t0 t1 t2 x0 x1 R v W) (hB : Below lo W w2) (ho : OwnR w2 lo w2.heap.size v' R') :
    LInv w tb rb xb lo t0 t1 t2 x0 x1 R' v' (w2.setCell ⟨xb, 2, none⟩ v') := by
  have c := fun b i (hb : b < lo) => hB.cell (p := ⟨b, i, none⟩) hb
  have f := fun b i (hb : b < lo) => hB.frozen (p := ⟨b, i, none⟩) hb
  have hhs : ∀ u : Value, (w2.setCell ⟨xb, 2, none⟩ u).heap.size = w2.heap.size := fun u => by simp [World.setCell]
  have n0 := h.ntb
  have n1 := h.nrb
  refine ⟨by rw [hhs]; exact ho.setLow h.hxb, (h.bel.trans (hB.mono (by have := h.hw; have := h.hxb; omega))).setCell h.hw _, by rw [hhs]; exact Nat.le_trans h.size hB.size, h.hw, h.htb, h.hrb, h.hxb, h.ntb, h.nrb,
    (cell_set_other (by omega)).trans ((c tb 0 h.htb).trans h.c0), (cell_set_other (by omega)).trans ((c tb 1 h.htb).trans h.c1), (cell_set_other (by omega)).trans ((c tb 2 h.htb).trans h.c2),
    (cell_set_other (by omega)).trans ((c xb 0 h.hxb).trans h.x0), (cell_set_other (by omega)).trans ((c xb 1 h.hxb).trans h.x1), cell_set_same ((c xb 2 h.hxb).trans h.x2), frozen_set.trans ((f xb 2 h.hxb).trans h.fx), fun i hi => ⟨?_, frozen_set.trans ((f rb i h.hrb).trans (h.res i hi).2)⟩⟩
  rw [cell_set_other (by omega), c rb i h.hrb]
  exact (h.res i hi).1
theorem LInv.drewN {w W : World} {tb rb xb lo : Nat} {t0 t1 t2 x0 x1 v : Value} {R : List (List Int)} (h : LInv w tb rb xb lo t0 t1 t2 x0 x1 R v W) (q : Nat) : LInv w tb rb xb lo t0 t1 t2 x0 x1 R v (W.drewN q) :=
  ⟨h.own.drewN q, below_drewN h.bel q, h.size, h.hw, h.htb, h.hrb, h.hxb, h.ntb, h.nrb, h.c0, h.c1, h.c2, h.x0, h.x1, h.x2, h.fx, h.res⟩
theorem LInv.drew {w W : World} {tb rb xb lo : Nat} {t0 t1 t2 x0 x1 v : Value} {R : List (List Int)} (h : LInv w tb rb xb lo t0 t1 t2 x0 x1 R v W) : LInv w tb rb xb lo t0 t1 t2 x0 x1 R v W.drew := h.drewN 1
theorem LInv.next {w W W' : World} {tb rb xb lo : Nat} {t0 t1 t2 x0 x1 v : Value} {R : List (List Int)} (h : LInv w tb rb xb lo t0 t1 t2 x0 x1 R v W) (b : Below W.heap.size W W') : LInv w tb rb xb lo t0 t1 t2 x0 x1 R v W' := by
  have c := fun k i (hk : k < lo) => b.cell (p := ⟨k, i, none⟩) (Nat.lt_of_lt_of_le hk h.size)
  have f := fun k i (hk : k < lo) => b.frozen (p := ⟨k, i, none⟩) (Nat.lt_of_lt_of_le hk h.size)
  exact ⟨(h.own.below b (Nat.le_refl _)).wide b.size, h.bel.trans (b.mono h.bel.size), Nat.le_trans h.size b.size, h.hw, h.htb, h.hrb, h.hxb, h.ntb, h.nrb, (c tb 0 h.htb).trans h.c0, (c tb 1 h.htb).trans h.c1, (c tb 2 h.htb).trans h.c2,
    (c xb 0 h.hxb).trans h.x0, (c xb 1 h.hxb).trans h.x1, (c xb 2 h.hxb).trans h.x2, (f xb 2 h.hxb).trans h.fx, fun i hi => ⟨by rw [c rb i h.hrb]; exact (h.res i hi).1, (f rb i h.hrb).trans (h.res i hi).2⟩⟩
/-- The rows R are done; the result's cell takes the table. -/
theorem LInv.fin {w W : World} {tb rb xb lo : Nat} {t0 t1 t2 x0 x1 v : Value} {R : List (List Int)} (h : LInv w tb rb xb lo t0 t1 t2 x0 x1 R v W) (hlo : w.heap.size ≤ lo) (hrb : w.heap.size ≤ rb) (a b c : Value) :
    OwnR (((W.setCell ⟨rb, 0, none⟩ a).setCell ⟨rb, 1, none⟩ b).setCell ⟨rb, 2, none⟩ c) w.heap.size (((W.setCell ⟨rb, 0, none⟩ a).setCell ⟨rb, 1, none⟩ b).setCell ⟨rb, 2, none⟩ c).heap.size v R ∧ Below w.heap.size w (((W.setCell ⟨rb, 0, none⟩ a).setCell ⟨rb, 1, none⟩ b).setCell ⟨rb, 2, none⟩ c) :=
  ⟨by
    have := ((h.own.setLow (i := 0) (x := a) h.hrb).setLow (i := 1) (x := b) h.hrb).setLow (i := 2) (x := c) h.hrb
    exact (this.down hlo).wide (by simp [World.setCell]), ((h.bel.setCell hrb _).setCell hrb _).setCell hrb _⟩
end Go.Proofs.YtmojjbhjjhdpaaaDoor
