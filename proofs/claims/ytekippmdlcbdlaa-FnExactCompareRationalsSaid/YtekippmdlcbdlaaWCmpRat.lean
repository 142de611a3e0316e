/- The walk of the law on CompareRationals. No condition. -/
import Derived.Test.YtekippmdlcbdlaaInv2
import Derived.Deep.RegionHeld3
namespace Go.Proofs.Ytekippmdlcbdlaa
open Go.RowKit
set_option maxRecDepth 100000 in
set_option maxHeartbeats 1000000 in
theorem compareRationals_walk (n d n' d' : Int) (w : World) (_hn : (Lit.int .i64 n).wf = true) (_hd : (Lit.int .i64 d).wf = true) (_hn' : (Lit.int .i64 n').wf = true) (_hd' : (Lit.int .i64 d').wf = true) :
    Calls Try.prog 5 #[.agg #[.int .i64 n, .int .i64 d], .agg #[.int .i64 n', .int .i64 d']] w fun e w' => e = .returned (.bool true) ∧ Below w.heap.size w w' := by
  have i0 := (Inv2.start w n d n' d' 23).opened
  go_enter Try.func5, Try.ntmps5
  go_wp2_with fail
  generalize (w.alloc (.cells #[.int .i64 n, .int .i64 d] 23)).alloc (.cells #[.int .i64 n', .int .i64 d'] 23) = W0 at *
  go_region_held3 (fun W => W.cell? ⟨w.heap.size, 0, none⟩ = some (.int .i64 n) ∧ W.cell? ⟨w.heap.size, 1, none⟩ = some (.int .i64 d) ∧ W.cell? ⟨w.heap.size + 1, 0, none⟩ = some (.int .i64 n') ∧ W.cell? ⟨w.heap.size + 1, 1, none⟩ = some (.int .i64 d') ∧ Inv2 w n d n' d' W)
    (first | assumption | exact open2_drew (by assumption) | exact open2_next (by assumption) (by assumption))
    (first | (go_at_call 12; refine (toRational_any _ _ _).mono ?_; rintro e w1 ⟨rfl, b1⟩) | (go_at_call 16; refine (spec_Compare_any _ _ _ _ _).mono ?_; rintro e w1 ⟨rfl, b1⟩))
  all_goals (
    go_wp2_with fail
    go_region_held3 (fun W => W.cell? ⟨w.heap.size, 0, none⟩ = some (.int .i64 n) ∧ W.cell? ⟨w.heap.size, 1, none⟩ = some (.int .i64 d) ∧ W.cell? ⟨w.heap.size + 1, 0, none⟩ = some (.int .i64 n') ∧ W.cell? ⟨w.heap.size + 1, 1, none⟩ = some (.int .i64 d') ∧ Inv2 w n d n' d' W)
      (first | assumption | exact open2_drew (by assumption) | exact open2_next (by assumption) (by assumption))
      (first | (go_at_call 12; refine (toRational_any _ _ _).mono ?_; rintro e w1 ⟨rfl, b1⟩) | (go_at_call 17; refine (impl_Compare_any _ _ _ _ _).mono ?_; rintro e w1 ⟨rfl, b1⟩))
    all_goals (
      go_wp2_with fail
      go_ret
      exact ⟨rfl, open2_bel (by assumption)⟩))
end Go.Proofs.Ytekippmdlcbdlaa
