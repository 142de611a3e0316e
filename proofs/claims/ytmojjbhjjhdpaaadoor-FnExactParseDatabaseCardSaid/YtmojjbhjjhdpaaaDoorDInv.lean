/- What a function keeps that fills a database's tables, one by one: known cells, its own box, the tables. Answers that hold a database. Of no program but for the types' numbers. -/
import Derived.Test.YtmojjbhjjhdpaaaDoorDbW
import Derived.Test.YtmojjbhjjhdpaaaDoorKn
import Derived.Test.YtmojjbhjjhdpaaaDoorLInv
namespace Go.Proofs.YtmojjbhjjhdpaaaDoor
open Go.RowKit Go.Deep

/-- Beside the known cells L lie the tables ts in the slice v, which the box xb holds; all boxes lie below lo. -/
structure DInv (w : World) (L : List (Nat × Nat × Value)) (xb lo : Nat) (ts : List Tab) (v : Value) (W : World) : Prop where
  kn : Kn w L W
  own : OwnD W lo W.heap.size v ts
  size : lo ≤ W.heap.size
  hw : w.heap.size ≤ xb
  hxb : xb < lo
  nL : ∀ t ∈ L, t.1 ≠ xb ∧ t.1 < lo
  x0 : W.cell? ⟨xb, 0, none⟩ = some v
  fx : W.frozen? ⟨xb, 0, none⟩ = false
theorem DInv.next {w W W' : World} {L : List (Nat × Nat × Value)} {xb lo : Nat} {ts : List Tab} {v : Value} (h : DInv w L xb lo ts v W) (b : Below W.heap.size W W') : DInv w L xb lo ts v W' :=
  ⟨h.kn.next b, (h.own.below b (Nat.le_refl _)).wide b.size, Nat.le_trans h.size b.size, h.hw, h.hxb, h.nL,
    (b.cell (p := ⟨xb, 0, none⟩) (Nat.lt_of_lt_of_le h.hxb h.size)).trans h.x0, (b.frozen (p := ⟨xb, 0, none⟩) (Nat.lt_of_lt_of_le h.hxb h.size)).trans h.fx⟩
theorem DInv.drew {w W : World} {L : List (Nat × Nat × Value)} {xb lo : Nat} {ts : List Tab} {v : Value} (h : DInv w L xb lo ts v W) : DInv w L xb lo ts v W.drew := h.next (Below.refl _ _).drew
theorem DInv.drewN {w W : World} {L : List (Nat × Nat × Value)} {xb lo : Nat} {ts : List Tab} {v : Value} (h : DInv w L xb lo ts v W) (q : Nat) : DInv w L xb lo ts v (W.drewN q) := h.next (below_drewN (Below.refl _ _) q)
theorem DInv.push {w W w2 : World} {L : List (Nat × Nat × Value)} {xb lo : Nat} {ts ts' : List Tab} {v v' : Value} (h : DInv w L xb lo ts v W) (hB : Below lo W w2) (ho : OwnD w2 lo w2.heap.size v' ts') :
    DInv w L xb lo ts' v' (w2.setCell ⟨xb, 0, none⟩ v') := by
  have hhs : (w2.setCell ⟨xb, 0, none⟩ v').heap.size = w2.heap.size := by simp [World.setCell]
  have hlo : w.heap.size ≤ lo := Nat.le_of_lt (Nat.lt_of_le_of_lt h.hw h.hxb)
  refine ⟨⟨(h.kn.bel.trans (hB.mono hlo)).setCell h.hw _, fun t ht => ⟨?_, ?_⟩, fun t ht => ?_⟩, ?_, ?_, h.hw, h.hxb, h.nL, ?_, ?_⟩
  · rw [hhs]
    exact Nat.lt_of_lt_of_le (h.kn.cell t ht).1 hB.size
  · have hn := h.nL t ht
    rw [cell_set_other (by omega)]
    exact (hB.cell (p := ⟨t.1, t.2.1, none⟩) hn.2).trans (h.kn.cell t ht).2
  · have hn := h.nL t ht
    rw [frozen_set]
    exact (hB.frozen (p := ⟨t.1, t.2.1, none⟩) hn.2).trans (h.kn.frz t ht)
  · rw [hhs]
    exact ho.setOff (.inl h.hxb)
  · rw [hhs]
    exact Nat.le_trans h.size hB.size
  · exact cell_set_same ((hB.cell (p := ⟨xb, 0, none⟩) h.hxb).trans h.x0)
  · rw [frozen_set]
    exact (hB.frozen (p := ⟨xb, 0, none⟩) h.hxb).trans h.fx
/-- One table more: what the append asks, and what it leaves. -/
theorem DInv.app {w W w1 : World} {L : List (Nat × Nat × Value)} {xb lo lo1 hi c1 : Nat} {ts : List Tab} {v : Value} {A1 : Option Addr} {nm : ByteArray} {ar : Int} {rs : List (List Int)} (h : DInv w L xb lo ts v W) (hb1 : Below W.heap.size W w1)
    (ho : OwnR w1 lo1 hi (.slice A1 rs.length c1) rs) (hlo1 : W.heap.size ≤ lo1) (hhi : hi ≤ w1.heap.size) (hnm : nm.size ≤ maxLen) :
    ∃ xs : List Value, (w1.alloc (.cells #[.string nm, .int .i64 ar, .slice A1 rs.length c1] 41)).ownsRow 0 41 3 v ts.length xs ∧ w1.cell? ⟨xb, 0, none⟩ = some v ∧
      ∀ (g cap : Nat) (w2 : World), w2.ownsRow 0 41 3 (.slice (some ⟨g, 0, none⟩) (ts.length + 1) cap) (ts.length + 1) (xs ++ [.string nm, .int .i64 ar, .slice A1 rs.length c1]) →
        (w1.alloc (.cells #[.string nm, .int .i64 ar, .slice A1 rs.length c1] 41)).grownBy w2 v.ownBlock → (v.ownBlock = some g ∨ g = w1.heap.size + 1) →
        w2.cell? ⟨xb, 0, none⟩ = some v ∧ w2.frozen? ⟨xb, 0, none⟩ = false ∧ DInv w L xb lo (ts ++ [⟨nm, ar, rs⟩]) (.slice (some ⟨g, 0, none⟩) (ts.length + 1) cap) (w2.setCell ⟨xb, 0, none⟩ (.slice (some ⟨g, 0, none⟩) (ts.length + 1) cap)) ∧
          (∀ X i, W.heap.size ≤ X → X < w1.heap.size → (w2.setCell ⟨xb, 0, none⟩ (.slice (some ⟨g, 0, none⟩) (ts.length + 1) cap)).cell? ⟨X, i, none⟩ = w1.cell? ⟨X, i, none⟩) ∧ w1.heap.size ≤ (w2.setCell ⟨xb, 0, none⟩ (.slice (some ⟨g, 0, none⟩) (ts.length + 1) cap)).heap.size := by
  obtain ⟨xs, k1, k2, k3⟩ := h.own.open_
  have hxW := Nat.lt_of_lt_of_le h.hxb h.size
  have hs1 := hb1.size
  have hA : Below w1.heap.size w1 (w1.alloc (.cells #[.string nm, .int .i64 ar, .slice A1 rs.length c1] 41)) := (Below.refl _ _).alloc (Nat.le_refl _) _
  have hB1 : Below W.heap.size W (w1.alloc (.cells #[.string nm, .int .i64 ar, .slice A1 rs.length c1] 41)) := hb1.trans (hA.mono hs1)
  refine ⟨xs, ownsRow_keep k1 fun g hg => hB1.block g (k2 g hg).2.2, (hb1.cell (p := ⟨xb, 0, none⟩) hxW).trans h.x0, fun g cap w2 hown hgrow hat => ?_⟩
  have hB2 : Below lo W w2 := (hB1.mono h.size).grown hgrow (by simp; exact Nat.le_trans h.size (Nat.le_succ_of_le hs1)) (fun j hj => (k2 j hj).1)
  have hD := k3 _ w2 A1 nm ar rs c1 lo1 hi g cap hB1 (ho.below hA (by omega)) hnm hlo1 (Nat.le_trans h.size hlo1) (by simp; omega) (by simp; exact Nat.le_succ_of_le (Nat.le_trans h.size hs1)) hown hgrow (by simpa using hat)
  refine ⟨(hB2.cell (p := ⟨xb, 0, none⟩) h.hxb).trans h.x0, (hB2.frozen (p := ⟨xb, 0, none⟩) h.hxb).trans h.fx, h.push hB2 hD, fun X i hX hX1 => ?_, ?_⟩
  · rw [cell_set_other (by omega)]
    have e1 : w2.heap[X]? = (w1.alloc (.cells #[.string nm, .int .i64 ar, .slice A1 rs.length c1] 41)).heap[X]? := hgrow.block X (by simp; omega) fun e => by have := k2 X e.symm; omega
    exact (World.cell?_of_block e1).trans (hA.cell (p := ⟨X, i, none⟩) hX1)
  · have := hgrow.size
    simp at this
    simp [World.setCell]
    omega

theorem tab_small {ts : List Tab} {k : Nat} {t : Tab} (hx : ts[k]? = some t) (hs : sumT ts ≤ 4294967296) : t.rs.length ≤ 5000000000 ∧ ∀ r ∈ t.rs, r.length ≤ 17592186044416 := by
  have h1 := sumT_mem (List.mem_of_getElem? hx)
  exact ⟨by omega, fun r hr => by have := sumL_mem hr; omega⟩
/-- A new database and a bool, behind a name. -/
def DbBool (R : List Tab × Bool) (w : World) (e : Ending) (w' : World) : Prop :=
  ∃ (A : Option Addr) (c : Nat), e = .returned (.tuple #[.agg #[.slice A R.1.length c], .bool R.2]) ∧ OwnD w' w.heap.size w'.heap.size (.slice A R.1.length c) R.1 ∧ Below w.heap.size w w'
theorem DbBool.of {R : List Tab × Bool} {ts : List Tab} {b : Bool} {w w' : World} {A : Option Addr} {n c : Nat} (hR : R = (ts, b)) (h : OwnD w' w.heap.size w'.heap.size (.slice A n c) ts) (hb : Below w.heap.size w w') :
    DbBool R w (.returned (.tuple #[.agg #[.slice A n c], .bool b])) w' := by
  subst hR
  have hn := h.len_eq
  subst hn
  exact ⟨A, c, rfl, h, hb⟩
/-- DbBool, its parts apart. -/
def DbAns (ts : List Tab) (ok : Bool) (w : World) (e : Ending) (w' : World) : Prop :=
  ∃ (A : Option Addr) (c : Nat), e = .returned (.tuple #[.agg #[.slice A ts.length c], .bool ok]) ∧ OwnD w' w.heap.size w'.heap.size (.slice A ts.length c) ts ∧ Below w.heap.size w w'
end Go.Proofs.YtmojjbhjjhdpaaaDoor
