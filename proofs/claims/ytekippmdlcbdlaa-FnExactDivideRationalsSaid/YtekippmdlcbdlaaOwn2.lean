/- A new block of two ints, kept by all that leaves the elder heap alone. No condition. -/
import Derived.Test.YtekippmdlcbdlaaInv2
namespace Go.Proofs.Ytekippmdlcbdlaa
open Go.RowKit
/-- At b lies an unfrozen block of two ints, x and y, behind the two boxed arguments. -/
abbrev Own2 (w : World) (b : Nat) (x y : Int) (W : World) : Prop :=
  W.cell? ⟨b, 0, none⟩ = some (.int .i64 x) ∧ W.cell? ⟨b, 1, none⟩ = some (.int .i64 y) ∧ W.frozen? ⟨b, 0, none⟩ = false ∧ W.frozen? ⟨b, 1, none⟩ = false ∧ b < W.heap.size ∧ w.heap.size + 1 < b
theorem own2_alloc {w W w1 : World} {x y : Int} {t : TypeId} (b : Below (W.alloc (.cells #[.int .i64 x, .int .i64 y] t)).heap.size (W.alloc (.cells #[.int .i64 x, .int .i64 y] t)) w1) (hs : w.heap.size + 1 < W.heap.size) : Own2 w W.heap.size x y w1 :=
  ⟨(b.cell (p := ⟨W.heap.size, 0, none⟩) (by simp)).trans (by simp [go_sem]), (b.cell (p := ⟨W.heap.size, 1, none⟩) (by simp)).trans (by simp [go_sem]),
   (b.frozen (p := ⟨W.heap.size, 0, none⟩) (by simp)).trans (by simp [go_sem]), (b.frozen (p := ⟨W.heap.size, 1, none⟩) (by simp)).trans (by simp [go_sem]), Nat.lt_of_lt_of_le (by simp) b.size, hs⟩
theorem own2_next {w W w1 : World} {k : Nat} {x y : Int} (b : Below W.heap.size W w1) (h : Own2 w k x y W) : Own2 w k x y w1 :=
  ⟨(b.cell (p := ⟨k, 0, none⟩) h.2.2.2.2.1).trans h.1, (b.cell (p := ⟨k, 1, none⟩) h.2.2.2.2.1).trans h.2.1,
   (b.frozen (p := ⟨k, 0, none⟩) h.2.2.2.2.1).trans h.2.2.1, (b.frozen (p := ⟨k, 1, none⟩) h.2.2.2.2.1).trans h.2.2.2.1, Nat.lt_of_lt_of_le h.2.2.2.2.1 b.size, h.2.2.2.2.2⟩
theorem open2_size {w W : World} {n d n' d' : Int} (h : Open2 w n d n' d' W) : w.heap.size + 1 < W.heap.size := h.2.2.2.2.size
theorem open2_far {w W W' : World} {n d n' d' : Int} {k : Nat} (hk : w.heap.size + 1 < k) (b : Below k W W') (h : Open2 w n d n' d' W) : Open2 w n d n' d' W' :=
  have i := h.2.2.2.2
  Inv2.opened ⟨i.bel.trans (b.mono (by omega)), Nat.lt_of_lt_of_le i.size b.size,
    (b.cell (p := ⟨w.heap.size, 0, none⟩) (by show w.heap.size < _; omega)).trans i.c0, (b.cell (p := ⟨w.heap.size, 1, none⟩) (by show w.heap.size < _; omega)).trans i.c1,
    (b.cell (p := ⟨w.heap.size + 1, 0, none⟩) hk).trans i.c2, (b.cell (p := ⟨w.heap.size + 1, 1, none⟩) hk).trans i.c3⟩
theorem open2_set2 {w W : World} {n d n' d' : Int} {k : Nat} {x y : Value} (hk : w.heap.size + 1 < k) (h : Open2 w n d n' d' W) : Open2 w n d n' d' ((W.setCell ⟨k, 0, none⟩ x).setCell ⟨k, 1, none⟩ y) :=
  open2_far hk (((Below.refl k W).setCell (Nat.le_refl k) _).setCell (Nat.le_refl k) _) h
theorem own2_new {w W : World} {x y : Int} {t : TypeId} (hs : w.heap.size + 1 < W.heap.size) : Own2 w W.heap.size x y (W.alloc (.cells #[.int .i64 x, .int .i64 y] t)) :=
  ⟨by simp [go_sem], by simp [go_sem], by simp [go_sem], by simp [go_sem], by simp, hs⟩
theorem own2_set2 {w W : World} {x y a b : Int} {k : Nat} (h : Own2 w k a b W) : Own2 w k x y ((W.setCell ⟨k, 0, none⟩ (.int .i64 x)).setCell ⟨k, 1, none⟩ (.int .i64 y)) := by
  obtain ⟨h1, h2, h3, h4, h5, h6⟩ := h
  refine ⟨?_, ?_, ?_, ?_, ?_, h6⟩ <;> simp [go_sem, *]
theorem own2_far {w W W' : World} {x y : Int} {k b : Nat} (hk : b < k) (hb : Below k W W') (h : Own2 w b x y W) : Own2 w b x y W' :=
  ⟨(hb.cell (p := ⟨b, 0, none⟩) hk).trans h.1, (hb.cell (p := ⟨b, 1, none⟩) hk).trans h.2.1, (hb.frozen (p := ⟨b, 0, none⟩) hk).trans h.2.2.1, (hb.frozen (p := ⟨b, 1, none⟩) hk).trans h.2.2.2.1, Nat.lt_of_lt_of_le h.2.2.2.2.1 hb.size, h.2.2.2.2.2⟩
theorem own2_other {w W : World} {x y : Int} {u v : Value} {k b : Nat} (hk : b < k) (h : Own2 w b x y W) : Own2 w b x y ((W.setCell ⟨k, 0, none⟩ u).setCell ⟨k, 1, none⟩ v) :=
  own2_far hk (((Below.refl k W).setCell (Nat.le_refl k) _).setCell (Nat.le_refl k) _) h
end Go.Proofs.Ytekippmdlcbdlaa
