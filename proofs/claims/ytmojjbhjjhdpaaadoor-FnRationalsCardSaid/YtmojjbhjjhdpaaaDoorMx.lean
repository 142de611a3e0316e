/- A cell of the library's that its search reads: known from the world's shape. -/
import Derived.Test.YtmojjbhjjhdpaaaDoorDoor
namespace Go.Proofs.YtmojjbhjjhdpaaaDoor
open Go.RowKit

/-- The cell of the library's that its search reads. -/
def Mx (w : World) : Prop := ∃ m : Int, w.cell? ⟨2, 0, none⟩ = some (.int .i64 m)
theorem Mx.on {w w' : World} (h : Mx w) (hb : Below w.heap.size w w') : Mx w' := by
  obtain ⟨m, hm⟩ := h
  exact ⟨m, (hb.cell (p := ⟨2, 0, none⟩) (World.block_lt_of_cell? w _ hm)).trans hm⟩
theorem mx_of_shaped {w : World} (h : w.ShapedOpen Tryd.prog) : Mx w :=
  cell_of_shapedOpen_int h (of_decide_eq_true (by kernel_rfl)) (t := 3) (zero := #[.int .i64 0]) (by kernel_rfl) rfl (by kernel_rfl) (by kernel_rfl) Tryd.underlying3
end Go.Proofs.YtmojjbhjjhdpaaaDoor
