/- The walk of the law on FormatInt. -/
import Derived.Test.YtmojjbhjjhdpaaaDoorFmt
import Derived.Test.YtmojjbhjjhdpaaaDoorPow
namespace Go.Proofs.YtmojjbhjjhdpaaaDoor
open Go.RowKit
set_option maxRecDepth 100000 in
set_option maxHeartbeats 1000000 in
theorem formatInt_walk (a0 : Int) (w : World) (ht : Tb w) (p0 : (Lit.int .i64 a0).wf = true) :
    Calls Tryd.prog 3 #[.int .i64 a0] w fun e w' => e = .returned (.bool true) ∧ Below w.heap.size w w' := by
  obtain ⟨h1, h2⟩ := int_wf p0
  go_enter Tryd.func3, Tryd.ntmps3
  go_wp2_with fail
  refine (spec_FormatInt_any a0 _ h1 h2).mono ?_
  rintro e w1 ⟨rfl, b1⟩
  go_wp2_with fail
  refine (impl_FormatInt_any a0 _ h1 h2 (ht.on b1)).mono ?_
  rintro e w2 ⟨rfl, b2⟩
  have t2 := b1.trans (b2.mono b1.size)
  go_wp2_with fail
  go_ret
  exact ⟨rfl, t2⟩
end Go.Proofs.YtmojjbhjjhdpaaaDoor
