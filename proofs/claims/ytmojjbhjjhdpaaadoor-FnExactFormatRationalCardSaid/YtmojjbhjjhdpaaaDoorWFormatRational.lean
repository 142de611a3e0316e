/- The walk of the law on FormatRational. -/
import Derived.Test.YtmojjbhjjhdpaaaDoorRatF
namespace Go.Proofs.YtmojjbhjjhdpaaaDoor
open Go.RowKit
set_option maxRecDepth 100000 in
set_option maxHeartbeats 1000000 in
theorem formatRational_walk (n d : Int) (w : World) (ht : Tb w) (_p0 : (Lit.int .i64 n).wf = true) (_p1 : (Lit.int .i64 d).wf = true) :
    Calls Tryd.prog 5 #[.agg #[.int .i64 n, .int .i64 d]] w fun e w' => e = .returned (.bool true) ∧ Below w.heap.size w w' := by
  have KS := Lib.hid (fun W => spec_FormatRational_any n d W)
  have KI := Lib.hid (fun W t => impl_FormatRational_any n d W t)
  generalize fR n d = T at KS KI
  have bx : Below w.heap.size w (w.alloc (.cells #[.int .i64 n, .int .i64 d] 28)) := (Below.refl _ _).alloc (Nat.le_refl _) _
  have c0 : (w.alloc (.cells #[.int .i64 n, .int .i64 d] 28)).cell? ⟨w.heap.size, 0, none⟩ = some (.int .i64 n) := by simp [go_sem]
  have c1 : (w.alloc (.cells #[.int .i64 n, .int .i64 d] 28)).cell? ⟨w.heap.size, 1, none⟩ = some (.int .i64 d) := by simp [go_sem]
  have l0 : w.heap.size < (w.alloc (.cells #[.int .i64 n, .int .i64 d] 28)).heap.size := by simp
  go_enter Tryd.func5, Tryd.ntmps5
  go_wp2_with fail
  generalize w.alloc (.cells #[.int .i64 n, .int .i64 d] 28) = w0 at bx c0 c1 l0 ⊢
  refine (toRational_any n d _).mono ?_
  rintro e w1 ⟨rfl, b1⟩
  go_wp2_with fail
  refine (KS.out _).mono ?_
  rintro e w2 ⟨rfl, b2⟩
  have b02 := b1.trans (b2.mono b1.size)
  have c0' := (b02.cell (p := ⟨w.heap.size, 0, none⟩) l0).trans c0
  have c1' := (b02.cell (p := ⟨w.heap.size, 1, none⟩) l0).trans c1
  clear b1 b2
  go_wp2_with fail
  refine (toRational_any n d _).mono ?_
  rintro e w3 ⟨rfl, b3⟩
  have b03 := bx.trans ((b02.trans (b3.mono b02.size)).mono bx.size)
  have t3 := ht.on b03
  clear b02 b3
  go_wp2_with fail
  refine (KI.out _ t3).mono ?_
  rintro e w4 ⟨rfl, b4⟩
  have b5 := b03.trans (b4.mono b03.size)
  go_wp2_with fail
  go_ret
  exact ⟨rfl, b5⟩
end Go.Proofs.YtmojjbhjjhdpaaaDoor
