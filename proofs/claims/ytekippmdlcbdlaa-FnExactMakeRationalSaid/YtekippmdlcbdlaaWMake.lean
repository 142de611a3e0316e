/- The walk of the law on MakeRational. No condition. -/
import Derived.Test.YtekippmdlcbdlaaRatMk
namespace Go.Proofs.Ytekippmdlcbdlaa
open Go.RowKit
set_option maxRecDepth 100000 in
set_option maxHeartbeats 1000000 in
theorem makeRational_walk (n d : Int) (w : World) (_hn : (Lit.int .i64 n).wf = true) (_hd : (Lit.int .i64 d).wf = true) :
    Calls Try.prog 6 #[.int .i64 n, .int .i64 d] w fun e w' => e = .returned (.bool true) ∧ Below w.heap.size w w' := by
  have KS := Lib.hid (fun W => spec_Make_any n d W (int_wf _hn) (int_wf _hd))
  have KI := Lib.hid (fun W => impl_Make_any n d W (int_wf _hn) (int_wf _hd))
  generalize makeR n d = r at KS KI
  obtain ⟨r1, r2, r3⟩ := r
  simp only [ratV] at KS KI
  go_enter Try.func6, Try.ntmps6
  go_wp2_with fail
  refine (KS.out _).mono ?_
  rintro e w1 ⟨rfl, b1⟩
  go_wp2_with fail
  have k0 : (w1.alloc (.cells #[.int .i64 r1, .int .i64 r2] 25)).cell? ⟨w1.heap.size, 0, none⟩ = some (.int .i64 r1) := by simp [go_sem]
  have k1 : (w1.alloc (.cells #[.int .i64 r1, .int .i64 r2] 25)).cell? ⟨w1.heap.size, 1, none⟩ = some (.int .i64 r2) := by simp [go_sem]
  refine (KI.out _).mono ?_
  rintro e w2 ⟨rfl, b2⟩
  obtain ⟨hc, hf'⟩ := bcell b2
  have hs := b2.size
  simp at hs
  have q0 : w2.cell? ⟨w1.heap.size, 0, none⟩ = some (.int .i64 r1) := by rw [hc _ _ (by simp)]; exact k0
  have q1 : w2.cell? ⟨w1.heap.size, 1, none⟩ = some (.int .i64 r2) := by rw [hc _ _ (by simp)]; exact k1
  have hbel : Below w.heap.size w w2 := (b1.alloc b1.size _).trans (b2.mono (by have := b1.size; simp; omega))
  clear hc hf' k0 k1 b2
  have v0 : (w2.alloc (.cells #[.int .i64 r1, .int .i64 r2] 25)).cell? ⟨w1.heap.size, 0, none⟩ = some (.int .i64 r1) := (((Below.refl w2.heap.size w2).alloc (Nat.le_refl _) _).cell (p := ⟨w1.heap.size, 0, none⟩) (by show w1.heap.size < _; omega)).trans q0
  have v1 : (w2.alloc (.cells #[.int .i64 r1, .int .i64 r2] 25)).cell? ⟨w1.heap.size, 1, none⟩ = some (.int .i64 r2) := (((Below.refl w2.heap.size w2).alloc (Nat.le_refl _) _).cell (p := ⟨w1.heap.size, 1, none⟩) (by show w1.heap.size < _; omega)).trans q1
  go_wp2_with fail
  refine (eqRational_same r1 r2 _).mono ?_
  rintro e w3 ⟨rfl, b3⟩
  go_wp2_with fail
  go_ret
  exact ⟨rfl, (hbel.alloc hbel.size _).trans (b3.mono (by have := hbel.size; simp; omega))⟩
end Go.Proofs.Ytekippmdlcbdlaa
