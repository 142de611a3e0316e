/- Two boxed rationals at the head of what a law has laid: kept by all that leaves the elder heap alone. No condition. -/
import Derived.Test.YtekippmdlcbdlaaRatB
namespace Go.Proofs.Ytekippmdlcbdlaa
open Go.RowKit
structure Inv2 (w : World) (n d n' d' : Int) (W : World) : Prop where
  bel : Below w.heap.size w W
  size : w.heap.size + 1 < W.heap.size
  c0 : W.cell? ⟨w.heap.size, 0, none⟩ = some (.int .i64 n)
  c1 : W.cell? ⟨w.heap.size, 1, none⟩ = some (.int .i64 d)
  c2 : W.cell? ⟨w.heap.size + 1, 0, none⟩ = some (.int .i64 n')
  c3 : W.cell? ⟨w.heap.size + 1, 1, none⟩ = some (.int .i64 d')
theorem Inv2.start (w : World) (n d n' d' : Int) (t : TypeId) : Inv2 w n d n' d' ((w.alloc (.cells #[.int .i64 n, .int .i64 d] t)).alloc (.cells #[.int .i64 n', .int .i64 d'] t)) :=
  ⟨((Below.refl _ _).alloc (Nat.le_refl _) _).alloc (by simp) _, by simp, by simp [go_sem], by simp [go_sem], by simp [go_sem], by simp [go_sem]⟩
theorem Inv2.next {w W W' : World} {n d n' d' : Int} (h : Inv2 w n d n' d' W) (b : Below W.heap.size W W') : Inv2 w n d n' d' W' :=
  ⟨h.bel.trans (b.mono (by have := h.size; omega)), Nat.lt_of_lt_of_le h.size b.size,
    (b.cell (p := ⟨w.heap.size, 0, none⟩) (by have := h.size; show w.heap.size < _; omega)).trans h.c0, (b.cell (p := ⟨w.heap.size, 1, none⟩) (by have := h.size; show w.heap.size < _; omega)).trans h.c1,
    (b.cell (p := ⟨w.heap.size + 1, 0, none⟩) h.size).trans h.c2, (b.cell (p := ⟨w.heap.size + 1, 1, none⟩) h.size).trans h.c3⟩
/-- The same, its cells laid open for the walk. -/
abbrev Open2 (w : World) (n d n' d' : Int) (W : World) : Prop :=
  W.cell? ⟨w.heap.size, 0, none⟩ = some (.int .i64 n) ∧ W.cell? ⟨w.heap.size, 1, none⟩ = some (.int .i64 d) ∧ W.cell? ⟨w.heap.size + 1, 0, none⟩ = some (.int .i64 n') ∧ W.cell? ⟨w.heap.size + 1, 1, none⟩ = some (.int .i64 d') ∧ Inv2 w n d n' d' W
theorem Inv2.opened {w W : World} {n d n' d' : Int} (h : Inv2 w n d n' d' W) : Open2 w n d n' d' W := ⟨h.c0, h.c1, h.c2, h.c3, h⟩
theorem open2_next {w W W' : World} {n d n' d' : Int} (b : Below W.heap.size W W') (h : Open2 w n d n' d' W) : Open2 w n d n' d' W' := (h.2.2.2.2.next b).opened
theorem open2_drew {w W : World} {n d n' d' : Int} (h : Open2 w n d n' d' W) : Open2 w n d n' d' W.drew := (h.2.2.2.2.next (Below.refl _ _).drew).opened
theorem open2_bel {w W : World} {n d n' d' : Int} (h : Open2 w n d n' d' W) : Below w.heap.size w W := h.2.2.2.2.bel
end Go.Proofs.Ytekippmdlcbdlaa
