/- What stands behind a statement 'w0, w1 := F(toX(a), toY(b))' whose order is drawn: a box with the answer. The box may be made ahead of the calls, between them or behind. Of no program but for the types' numbers. -/
import Derived.Test.YtimlecfneibjlaaDInv
import Derived.Deep.RegionHeld3
import Derived.Deep.DeepCutAuto
namespace Go.Proofs.Ytimlecfneibjlaa
open Go.RowKit Go.Deep

theorem bel_al {w w1 : World} {o : Obj} (h : Below w.heap.size w w1) : Below w.heap.size w (w1.alloc o) := h.alloc h.size o
theorem bel_ald {w : World} {o : Obj} : Below w.heap.size w (w.alloc o).drew := (bel_al (Below.refl _ _)).drew
theorem bel_cell {w w1 : World} {B i : Nat} {x : Value} (h : Below w.heap.size w w1) (hB : w.heap.size ≤ B) : Below w.heap.size w (w1.setCell ⟨B, i, none⟩ x) := h.setCell hB x
theorem rdT_al {W : World} {o : Obj} {A : Option Addr} {n : Nat} {ts : List Tab} (h : RdT W W.heap.size A n ts) : RdT (W.alloc o) (W.alloc o).heap.size A n ts := rdT_next (bel_al (Below.refl _ _)) h
theorem rdR_al {W : World} {o : Obj} {A : Option Addr} {n : Nat} {rs : List (List Int)} (h : RdR W W.heap.size A n rs) : RdR (W.alloc o) (W.alloc o).heap.size A n rs := rdR_next (bel_al (Below.refl _ _)) h
/-- A box of one cell that is known, and is no longer the last. -/
structure BoxAt (c : World) (B : Nat) (x : Value) (W : World) : Prop where
  lo : c.heap.size ≤ B
  lt : B < W.heap.size
  cell : W.cell? ⟨B, 0, none⟩ = some x
  frz : W.frozen? ⟨B, 0, none⟩ = false
theorem BoxAt.next {c W w2 : World} {B : Nat} {x : Value} (b1 : Below W.heap.size W w2) (h : BoxAt c B x W) : BoxAt c B x w2 :=
  ⟨h.lo, Nat.lt_of_lt_of_le h.lt b1.size, (b1.cell (p := ⟨B, 0, none⟩) h.lt).trans h.cell, (b1.frozen (p := ⟨B, 0, none⟩) h.lt).trans h.frz⟩
theorem BoxAt.made {c U w2 : World} {x : Value} {t : TypeId} (hc : Below c.heap.size c U) (b1 : Below (U.alloc (.cells #[x] t)).heap.size (U.alloc (.cells #[x] t)) w2) : BoxAt c U.heap.size x w2 :=
  BoxAt.next b1 ⟨hc.size, by simp, by simp [go_sem], by simp [go_sem]⟩
theorem BoxAt.madeD {c w2 : World} {x : Value} {t : TypeId} (b1 : Below (c.alloc (.cells #[x] t)).drew.heap.size (c.alloc (.cells #[x] t)).drew w2) : BoxAt c c.heap.size x w2 :=
  BoxAt.next b1 ⟨Nat.le_refl _, by show c.heap.size < (c.alloc _).heap.size; simp, by simp [go_sem], by simp [go_sem]⟩
/-- A call behind the box's making, and what is then known. -/
theorem box_made {c U w2 : World} {x : Value} {t : TypeId} (hc : Below c.heap.size c U) (b1 : Below (U.alloc (.cells #[x] t)).heap.size (U.alloc (.cells #[x] t)) w2) :
    Below c.heap.size c (U.alloc (.cells #[x] t)) ∧ BoxAt c U.heap.size x w2 ∧ U.heap.size < (U.alloc (.cells #[x] t)).heap.size ∧ Below c.heap.size c w2 :=
  ⟨bel_al hc, BoxAt.made hc b1, by simp, bel_step (bel_al hc) b1⟩
theorem box_madeD {c w2 : World} {x : Value} {t : TypeId} (b1 : Below (c.alloc (.cells #[x] t)).drew.heap.size (c.alloc (.cells #[x] t)).drew w2) :
    Below c.heap.size c (c.alloc (.cells #[x] t)).drew ∧ BoxAt c c.heap.size x w2 ∧ c.heap.size < (c.alloc (.cells #[x] t)).drew.heap.size ∧ Below c.heap.size c w2 :=
  ⟨bel_ald, BoxAt.madeD b1, by show c.heap.size < (c.alloc _).heap.size; simp, bel_step bel_ald b1⟩
theorem box_kept {c W w2 : World} {B : Nat} {x : Value} (hc : Below c.heap.size c W) (h : BoxAt c B x W) (b1 : Below W.heap.size W w2) :
    Below c.heap.size c W ∧ BoxAt c B x w2 ∧ B < W.heap.size ∧ Below c.heap.size c w2 := ⟨hc, h.next b1, h.lt, bel_step hc b1⟩
theorem box_none {c W w2 : World} (hc : Below c.heap.size c W) (b1 : Below W.heap.size W w2) : Below c.heap.size c W ∧ Below c.heap.size c w2 := ⟨hc, bel_step hc b1⟩
/-- Behind the world c: p is a new box that holds the database ts, q is the bool. -/
def CutD (w : World) (L : List (Nat × Nat × Value)) (c : World) (ts : List Tab) (ok : Bool) (p q : Value) (wx : World) : Prop :=
  ∃ (A : Option Addr) (cc B hi : Nat), p = .pointer (some ⟨B, 0, none⟩) ∧ q = .bool ok ∧ Kn w (L ++ [(B, 0, .slice A ts.length cc)]) wx ∧ OwnD wx c.heap.size hi (.slice A ts.length cc) ts ∧ hi ≤ wx.heap.size ∧ B < wx.heap.size ∧ Below c.heap.size c wx
theorem CutD.of {w c w1 wo : World} {L : List (Nat × Nat × Value)} {ts : List Tab} {ok : Bool} {A : Option Addr} {cc : Nat} (kn : Kn w L c) (bo : Below c.heap.size c wo) (b1 : Below wo.heap.size wo w1) (ow : OwnD w1 wo.heap.size w1.heap.size (.slice A ts.length cc) ts) :
    CutD w L c ts ok (.pointer (some ⟨w1.heap.size, 0, none⟩)) (.bool ok) (w1.alloc (.cells #[.slice A ts.length cc] 29)) := by
  have bz := bo.trans (b1.mono bo.size)
  exact ⟨A, cc, w1.heap.size, w1.heap.size, rfl, rfl, (kn.next bz).box1 _ _, (ow.below ((Below.refl _ _).alloc (Nat.le_refl _) _) (Nat.le_refl _)).down bo.size, by simp, by simp, bel_al bz⟩
theorem CutD.of2 {w c w1 wo : World} {L : List (Nat × Nat × Value)} {ts : List Tab} {ok : Bool} {A : Option Addr} {cc B : Nat} {x : Value} (kn : Kn w L c) (bo : Below c.heap.size c wo) (b1 : Below wo.heap.size wo w1) (hB : BoxAt c B x w1) (hBo : B < wo.heap.size) (ow : OwnD w1 wo.heap.size w1.heap.size (.slice A ts.length cc) ts) :
    CutD w L c ts ok (.pointer (some ⟨B, 0, none⟩)) (.bool ok) (w1.setCell ⟨B, 0, none⟩ (.slice A ts.length cc)) := by
  have bz := bo.trans (b1.mono bo.size)
  have hs : (w1.setCell ⟨B, 0, none⟩ (.slice A ts.length cc)).heap.size = w1.heap.size := by simp [World.setCell]
  have bs : Below c.heap.size c (w1.setCell ⟨B, 0, none⟩ (.slice A ts.length cc)) := bel_cell bz hB.lo
  have kn1 := kn.next bs
  refine ⟨A, cc, B, w1.heap.size, rfl, rfl, ⟨kn1.bel, fun t ht => ?_, fun t ht => ?_⟩, (ow.setOff (.inl hBo)).down bo.size, by rw [hs]; exact Nat.le_refl _, by rw [hs]; exact hB.lt, bs⟩
  · rcases List.mem_append.1 ht with ht | ht
    · exact kn1.cell t ht
    · obtain rfl := List.mem_singleton.1 ht
      exact ⟨by rw [hs]; exact hB.lt, cell_set_same hB.cell⟩
  · rcases List.mem_append.1 ht with ht | ht
    · exact kn1.frz t ht
    · obtain rfl := List.mem_singleton.1 ht
      show (w1.setCell _ _).frozen? _ = false
      rw [frozen_set]
      exact hB.frz
end Go.Proofs.Ytimlecfneibjlaa
