/- The walk of the law of the constants. No condition. -/
import Derived.Test.YtpcjcjemfjhkcaaBase
namespace Go.Proofs.Ytpcjcjemfjhkcaa
open Go.RowKit
theorem constants_walk (w : World) : Calls Try.prog 3 #[] w fun e w' => e = .returned (.bool true) ∧ Below w.heap.size w w' := by
  go_enter Try.func3, Try.ntmps3
  go_wp2
  go_ret
  exact ⟨rfl, Below.refl _ _⟩
end Go.Proofs.Ytpcjcjemfjhkcaa
