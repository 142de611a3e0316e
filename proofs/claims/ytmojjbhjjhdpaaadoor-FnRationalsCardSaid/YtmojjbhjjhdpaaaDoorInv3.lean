/- Two boxed rationals and a result's cell at the head of what a function has laid; what the makers on two rationals answer. No condition. -/
import Derived.Test.YtmojjbhjjhdpaaaDoorRatM
namespace Go.Proofs.YtmojjbhjjhdpaaaDoor
open Go.RowKit
structure Inv3 (w : World) (n d n' d' : Int) (W : World) : Prop where
  bel : Below w.heap.size w W
  size : w.heap.size + 2 < W.heap.size
  c0 : W.cell? ⟨w.heap.size, 0, none⟩ = some (.int .i64 n)
  c1 : W.cell? ⟨w.heap.size, 1, none⟩ = some (.int .i64 d)
  c2 : W.cell? ⟨w.heap.size + 1, 0, none⟩ = some (.int .i64 n')
  c3 : W.cell? ⟨w.heap.size + 1, 1, none⟩ = some (.int .i64 d')
  c4 : W.cell? ⟨w.heap.size + 2, 0, none⟩ = some (.int .i64 0)
  c5 : W.cell? ⟨w.heap.size + 2, 1, none⟩ = some (.int .i64 0)
  f4 : W.frozen? ⟨w.heap.size + 2, 0, none⟩ = false
  f5 : W.frozen? ⟨w.heap.size + 2, 1, none⟩ = false
theorem Inv3.start (w : World) (n d n' d' : Int) (t : TypeId) : Inv3 w n d n' d' (((w.alloc (.cells #[.int .i64 n, .int .i64 d] t)).alloc (.cells #[.int .i64 n', .int .i64 d'] t)).alloc (.cells #[.int .i64 0, .int .i64 0] t)) :=
  ⟨(((Below.refl _ _).alloc (Nat.le_refl _) _).alloc (by simp) _).alloc (by simp; omega) _, by simp, by simp [go_sem], by simp [go_sem], by simp [go_sem], by simp [go_sem], by simp [go_sem], by simp [go_sem], by simp [go_sem], by simp [go_sem]⟩
theorem Inv3.next {w W W' : World} {n d n' d' : Int} (h : Inv3 w n d n' d' W) (b : Below W.heap.size W W') : Inv3 w n d n' d' W' := by
  have hs := h.size
  have a0 : w.heap.size < W.heap.size := by omega
  have a1 : w.heap.size + 1 < W.heap.size := by omega
  exact ⟨h.bel.trans (b.mono (by omega)), Nat.lt_of_lt_of_le h.size b.size,
    (b.cell (p := ⟨w.heap.size, 0, none⟩) a0).trans h.c0, (b.cell (p := ⟨w.heap.size, 1, none⟩) a0).trans h.c1,
    (b.cell (p := ⟨w.heap.size + 1, 0, none⟩) a1).trans h.c2, (b.cell (p := ⟨w.heap.size + 1, 1, none⟩) a1).trans h.c3,
    (b.cell (p := ⟨w.heap.size + 2, 0, none⟩) hs).trans h.c4, (b.cell (p := ⟨w.heap.size + 2, 1, none⟩) hs).trans h.c5,
    (b.frozen (p := ⟨w.heap.size + 2, 0, none⟩) hs).trans h.f4, (b.frozen (p := ⟨w.heap.size + 2, 1, none⟩) hs).trans h.f5⟩

/-- A maker on two rationals: both must be valid. -/
def opR (n d n' d' X Y : Int) : Int × Int × Bool := if validR n d = true ∧ validR n' d' = true then makeR X Y else (0, 0, false)
theorem opR_1 {n d n' d' X Y : Int} (h : validR n d = false) : opR n d n' d' X Y = (0, 0, false) := by rw [opR, if_neg (by simp [h])]
theorem opR_2 {n d n' d' X Y : Int} (h : validR n' d' = false) : opR n d n' d' X Y = (0, 0, false) := by rw [opR, if_neg (by simp [h])]
theorem opR_3 {n d n' d' X Y : Int} (h : validR n d = true) (h' : validR n' d' = true) : opR n d n' d' X Y = makeR X Y := by rw [opR, if_pos ⟨h, h'⟩]
end Go.Proofs.YtmojjbhjjhdpaaaDoor
