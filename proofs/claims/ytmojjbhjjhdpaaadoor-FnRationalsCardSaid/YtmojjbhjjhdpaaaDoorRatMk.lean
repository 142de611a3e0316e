/- MakeRational, both texts. No condition but that an int is an int. -/
import Derived.Test.YtmojjbhjjhdpaaaDoorMimplpos
import Derived.Test.YtmojjbhjjhdpaaaDoorMimplneg
import Derived.Test.YtmojjbhjjhdpaaaDoorMspecpos
import Derived.Test.YtmojjbhjjhdpaaaDoorMspecneg
namespace Go.Proofs.YtmojjbhjjhdpaaaDoor
open Go.RowKit
set_option maxRecDepth 100000 in
set_option maxHeartbeats 1000000 in
theorem impl_Make_any (n d : Int) (w : World) (hn : -9223372036854775808 ≤ n ∧ n ≤ 9223372036854775807) (hd : -9223372036854775808 ≤ d ∧ d ≤ 9223372036854775807) :
    Calls Tryd.prog 63 #[.int .i64 n, .int .i64 d] w fun e w' => e = .returned (ratV (makeR n d)) ∧ Below w.heap.size w w' := by
  by_cases hb : d = 0 ∨ n < -9223372036854775807 ∨ d < -9223372036854775807
  · have hf := Lib.hid (ratV_of (makeR_bad hb))
    have fin : ∀ W : World, Below w.heap.size w W → Below w.heap.size w W := fun _ h => h
    by_cases h0 : d = 0
    · subst h0
      clear hb
      go_enter Tryd.func63, Tryd.ntmps63
      go_wp2
      refine bodyPost_ret (v := .tuple #[.agg #[.int .i64 0, .int .i64 0], .bool false]) (by simp [results, Tryd.results63, go_sem, *]) rfl ⟨by rw [hf.out] <;> rfl, ?_⟩
      repeat first | exact Below.refl _ _ | (refine Below.setCell ?_ ?_ _; rotate_left; (simp; try omega)) | (refine Below.alloc ?_ ?_ _; rotate_left; (simp; try omega)) | refine Below.drew ?_
    · by_cases h1 : n = -9223372036854775808
      · subst h1
        have z1 : (d == 0) = false := by simpa using h0
        clear hb h0
        have m1 : IntKind.i64.wrap (9223372036854775808) = -9223372036854775808 := by decide
        have m2 : IntKind.i64.wrap (- -9223372036854775808) = -9223372036854775808 := by decide
        go_enter Tryd.func63, Tryd.ntmps63
        go_wp2
        refine bodyPost_ret (v := .tuple #[.agg #[.int .i64 0, .int .i64 0], .bool false]) (by simp [results, Tryd.results63, go_sem, *]) rfl ⟨by rw [hf.out] <;> rfl, ?_⟩
        repeat first | exact Below.refl _ _ | (refine Below.setCell ?_ ?_ _; rotate_left; (simp; try omega)) | (refine Below.alloc ?_ ?_ _; rotate_left; (simp; try omega)) | refine Below.drew ?_
      · obtain rfl : d = -9223372036854775808 := by omega
        obtain ⟨N, hN⟩ : ∃ N, N = -n := ⟨_, rfl⟩
        have m3 : IntKind.i64.wrap (-n) = N := (IntWalk.i64_in _ (by omega)).trans hN.symm
        have m1 : IntKind.i64.wrap (9223372036854775808) = -9223372036854775808 := by decide
        have m2 : IntKind.i64.wrap (- -9223372036854775808) = -9223372036854775808 := by decide
        by_cases h2 : n = 0
        · have z5 : (n == N) = true := by simp; omega
          have z6 : (n != 0) = false := by simp; omega
          have z9 : (n == 0) = true := by simp; omega
          clear hb h0 h1 h2 hN
          go_enter Tryd.func63, Tryd.ntmps63
          go_wp2
          refine bodyPost_ret (v := .tuple #[.agg #[.int .i64 0, .int .i64 0], .bool false]) (by simp [results, Tryd.results63, go_sem, *]) rfl ⟨by rw [hf.out] <;> rfl, ?_⟩
          repeat first | exact Below.refl _ _ | (refine Below.setCell ?_ ?_ _; rotate_left; (simp; try omega)) | (refine Below.alloc ?_ ?_ _; rotate_left; (simp; try omega)) | refine Below.drew ?_
        · have z5 : (n == N) = false := by simp; omega
          have z6 : (n != 0) = true := by simp; omega
          have z9 : (n == 0) = false := by simp; omega
          clear hb h0 h1 h2 hN
          go_enter Tryd.func63, Tryd.ntmps63
          go_wp2
          refine bodyPost_ret (v := .tuple #[.agg #[.int .i64 0, .int .i64 0], .bool false]) (by simp [results, Tryd.results63, go_sem, *]) rfl ⟨by rw [hf.out] <;> rfl, ?_⟩
          repeat first | exact Below.refl _ _ | (refine Below.setCell ?_ ?_ _; rotate_left; (simp; try omega)) | (refine Below.alloc ?_ ?_ _; rotate_left; (simp; try omega)) | refine Below.drew ?_
  · by_cases hs : d < 0
    · rw [makeR_neg hb hs]
      exact impl_Make_neg n d _ _ w rfl rfl (by omega) (by omega) (by omega)
    · rw [makeR_pos hb hs]
      exact impl_Make_pos n d _ _ w rfl rfl (by omega) (by omega) (by omega)

set_option maxRecDepth 100000 in
set_option maxHeartbeats 1000000 in
theorem spec_Make_any (n d : Int) (w : World) (hn : -9223372036854775808 ≤ n ∧ n ≤ 9223372036854775807) (hd : -9223372036854775808 ≤ d ∧ d ≤ 9223372036854775807) :
    Calls Tryd.prog 64 #[.int .i64 n, .int .i64 d] w fun e w' => e = .returned (ratV (makeR n d)) ∧ Below w.heap.size w w' := by
  by_cases hb : d = 0 ∨ n < -9223372036854775807 ∨ d < -9223372036854775807
  · have hf := Lib.hid (ratV_of (makeR_bad hb))
    by_cases h0 : d = 0
    · subst h0
      clear hb
      go_enter Tryd.func64, Tryd.ntmps64
      go_wp2
      refine bodyPost_ret (v := .tuple #[.agg #[.int .i64 0, .int .i64 0], .bool false]) (by simp [results, Tryd.results64, go_sem, *]) rfl ⟨by rw [hf.out] <;> rfl, ?_⟩
      repeat first | exact Below.refl _ _ | (refine Below.setCell ?_ ?_ _; rotate_left; (simp; try omega)) | (refine Below.alloc ?_ ?_ _; rotate_left; (simp; try omega)) | refine Below.drew ?_
    · have z1 : (d == 0) = false := by simpa using h0
      by_cases h1 : n < -9223372036854775807
      · have z7 : decide (n < -9223372036854775807) = true := by simpa using h1
        clear hb h0
        go_enter Tryd.func64, Tryd.ntmps64
        go_wp2
        refine bodyPost_ret (v := .tuple #[.agg #[.int .i64 0, .int .i64 0], .bool false]) (by simp [results, Tryd.results64, go_sem, *]) rfl ⟨by rw [hf.out] <;> rfl, ?_⟩
        repeat first | exact Below.refl _ _ | (refine Below.setCell ?_ ?_ _; rotate_left; (simp; try omega)) | (refine Below.alloc ?_ ?_ _; rotate_left; (simp; try omega)) | refine Below.drew ?_
      · have h2 : d < -9223372036854775807 := by omega
        clear hb h0
        go_enter Tryd.func64, Tryd.ntmps64
        go_wp2
        refine bodyPost_ret (v := .tuple #[.agg #[.int .i64 0, .int .i64 0], .bool false]) (by simp [results, Tryd.results64, go_sem, *]) rfl ⟨by rw [hf.out] <;> rfl, ?_⟩
        repeat first | exact Below.refl _ _ | (refine Below.setCell ?_ ?_ _; rotate_left; (simp; try omega)) | (refine Below.alloc ?_ ?_ _; rotate_left; (simp; try omega)) | refine Below.drew ?_
  · by_cases hs : d < 0
    · rw [makeR_neg hb hs]
      exact spec_Make_neg n d _ _ w rfl rfl (by omega) (by omega) (by omega)
    · rw [makeR_pos hb hs]
      exact spec_Make_pos n d _ _ w rfl rfl (by omega) (by omega) (by omega)
end Go.Proofs.YtmojjbhjjhdpaaaDoor
