/- A box of three cells, behind what leaves the elder heap alone. Of no program. -/
import Derived.Test.YtmojjbhjjhdpaaaDoorTab
namespace Go.Proofs.YtmojjbhjjhdpaaaDoor
open Go.RowKit Go.Deep

theorem box3_madeD {c w2 : World} {x y z : Value} {t : TypeId} (b1 : Below (c.alloc (.cells #[x, y, z] t)).drew.heap.size (c.alloc (.cells #[x, y, z] t)).drew w2) :
    (w2.cell? ⟨c.heap.size, 0, none⟩ = some x ∧ w2.cell? ⟨c.heap.size, 1, none⟩ = some y ∧ w2.cell? ⟨c.heap.size, 2, none⟩ = some z) ∧ (w2.frozen? ⟨c.heap.size, 0, none⟩ = false ∧ w2.frozen? ⟨c.heap.size, 1, none⟩ = false ∧ w2.frozen? ⟨c.heap.size, 2, none⟩ = false) ∧ c.heap.size < w2.heap.size := by
  have hX : (c.alloc (.cells #[x, y, z] t)).drew.heap.size = c.heap.size + 1 := by show (c.alloc _).heap.size = _; simp
  have hl : ∀ i, ({ block := c.heap.size, off := i } : Addr).block < (c.alloc (.cells #[x, y, z] t)).drew.heap.size := fun i => by rw [hX]; exact Nat.lt_succ_self _
  refine ⟨⟨(b1.cell (hl 0)).trans (by simp [go_sem]), (b1.cell (hl 1)).trans (by simp [go_sem]), (b1.cell (hl 2)).trans (by simp [go_sem])⟩, ⟨(b1.frozen (hl 0)).trans (by simp [go_sem]), (b1.frozen (hl 1)).trans (by simp [go_sem]), (b1.frozen (hl 2)).trans (by simp [go_sem])⟩, ?_⟩
  have := b1.size
  omega
theorem outU {w c : World} {x y z : Value} {t : TypeId} (b : Below (w.alloc (.cells #[x, y, z] t)).heap.size (w.alloc (.cells #[x, y, z] t)) c) :
    (c.cell? ⟨w.heap.size, 0, none⟩ = some x ∧ c.cell? ⟨w.heap.size, 1, none⟩ = some y ∧ c.cell? ⟨w.heap.size, 2, none⟩ = some z) ∧ (c.frozen? ⟨w.heap.size, 0, none⟩ = false ∧ c.frozen? ⟨w.heap.size, 1, none⟩ = false ∧ c.frozen? ⟨w.heap.size, 2, none⟩ = false) ∧ w.heap.size < c.heap.size ∧ Below w.heap.size w c := by
  have hX : (w.alloc (.cells #[x, y, z] t)).heap.size = w.heap.size + 1 := by simp
  have hl : ∀ i, ({ block := w.heap.size, off := i } : Addr).block < (w.alloc (.cells #[x, y, z] t)).heap.size := fun i => by rw [hX]; exact Nat.lt_succ_self _
  refine ⟨⟨(b.cell (hl 0)).trans (by simp [go_sem]), (b.cell (hl 1)).trans (by simp [go_sem]), (b.cell (hl 2)).trans (by simp [go_sem])⟩, ⟨(b.frozen (hl 0)).trans (by simp [go_sem]), (b.frozen (hl 1)).trans (by simp [go_sem]), (b.frozen (hl 2)).trans (by simp [go_sem])⟩, ?_, ?_⟩
  · have := b.size
    omega
  · exact ((Below.refl _ _).alloc (Nat.le_refl _) _).trans (b.mono (by rw [hX]; omega))
end Go.Proofs.YtmojjbhjjhdpaaaDoor
