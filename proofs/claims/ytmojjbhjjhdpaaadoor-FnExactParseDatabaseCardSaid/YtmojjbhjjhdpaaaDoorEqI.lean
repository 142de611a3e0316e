/- slices.Equal at []int. No condition but the size that the laws let in. -/
import Derived.Test.YtmojjbhjjhdpaaaDoorTab
namespace Go.Proofs.YtmojjbhjjhdpaaaDoor
open Go.RowKit Go.Deep


theorem Qt.rdI {w w' : World} {A : Option Addr} {n : Nat} {zs : List Int} (hq : Qt w w') (h : RdI w w.heap.size A n zs) : RdI w' w'.heap.size A n zs := by
  have := h.below (hq.below _)
  rwa [← hq.heap] at this
theorem Qt.rdR {w w' : World} {A : Option Addr} {n : Nat} {zs : List (List Int)} (hq : Qt w w') (h : RdR w w.heap.size A n zs) : RdR w' w'.heap.size A n zs := by
  have := RdR.belowB h (hq.below w.heap.size) (Nat.le_refl _)
  rwa [← hq.heap] at this

end Go.Proofs.YtmojjbhjjhdpaaaDoor
