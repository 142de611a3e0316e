/- impl.SubtractRationals. No condition. -/
import Derived.Test.YtekippmdlcbdlaaOimplAdd
namespace Go.Proofs.Ytekippmdlcbdlaa
open Go.RowKit

theorem validR_neg (n d : Int) : validR (-n) d = validR n d := by
  unfold validR
  have h1 : inB (-n) (-2147483647) 2147483647 = inB n (-2147483647) 2147483647 := by
    rw [Bool.eq_iff_iff, inB_iff, inB_iff]
    omega
  rw [h1, Int.neg_gcd]
theorem opR_sub (n d n' d' : Int) : opR n d (-n') d' (n * d' + -n' * d) (d * d') = opR n d n' d' (n * d' - n' * d) (d * d') := by
  unfold opR
  rw [validR_neg, Int.neg_mul, ← Int.sub_eq_add_neg]
set_option maxRecDepth 100000 in
set_option maxHeartbeats 1000000 in
theorem impl_Subtract_any (n d n' d' : Int) (w : World) :
    Calls Try.prog 28 #[.agg #[.int .i64 n, .int .i64 d], .agg #[.int .i64 n', .int .i64 d']] w fun e w' => e = .returned (ratV (opR n d n' d' (n * d' - n' * d) (d * d'))) ∧ Below w.heap.size w w' := by
  have i0 := Inv3.start w n d n' d' 25
  cases hv : validR n' d' with
  | false =>
    have hf := Lib.hid (ratV_of (opR_2 (n := n) (d := d) (X := (n * d' - n' * d)) (Y := (d * d')) hv))
    go_enter Try.func28, Try.ntmps28
    go_wp2_with fail
    refine (impl_IsValid_any n' d' _).mono ?_
    rintro e w1 ⟨rfl, b1⟩
    have i1 := i0.next b1
    clear i0 b1
    have k1_4 := i1.c4
    have k1_5 := i1.c5
    have l1_4 := i1.f4
    have l1_5 := i1.f5
    have s1 := i1.size
    have hb1 := i1.bel
    go_wp2_with fail
    refine bodyPost_ret (v := .tuple #[.agg #[.int .i64 0, .int .i64 0], .bool false]) (by simp [results, Try.results28, go_sem, *]) rfl ⟨by rw [hf.out] <;> rfl, ?_⟩
    repeat first | exact hb1 | (refine Below.setCell ?_ ?_ _; rotate_left; (simp; try omega)) | (refine Below.alloc ?_ ?_ _; rotate_left; (simp; try omega)) | refine Below.drew ?_
  | true =>
    obtain ⟨d1, d2, n1, n2⟩ := valid_bd hv
    have KM := Lib.hid (fun W => impl_Add_any n d (-n') d' W)
    have hf : Hid (ratV (opR n d (-n') d' (n * d' + -n' * d) (d * d')) = ratV (opR n d n' d' (n * d' - n' * d) (d * d'))) := by show _ = _; rw [opR_sub]
    have g1 : IntKind.i64.wrap (-n') = -n' := IntWalk.i64_in _ (by omega)
    generalize opR n d (-n') d' (n * d' + -n' * d) (d * d') = r at hf KM
    obtain ⟨r1, r2, r3⟩ := r
    simp only [ratV] at KM
    go_enter Try.func28, Try.ntmps28
    go_wp2_with fail
    refine (impl_IsValid_any n' d' _).mono ?_
    rintro e w1 ⟨rfl, b1⟩
    have i1 := i0.next b1
    clear i0 b1
    have k1_0 := i1.c0
    have k1_1 := i1.c1
    have k1_2 := i1.c2
    have k1_3 := i1.c3
    have s1 := i1.size
    have hb1 := i1.bel
    go_wp2_with fail
    refine (KM.out _).mono ?_
    rintro e w2 ⟨rfl, b2⟩
    have i2 := i1.next b2
    clear i1 b2 k1_0 k1_1 k1_2 k1_3 s1 hb1
    have k2_4 := i2.c4
    have k2_5 := i2.c5
    have l2_4 := i2.f4
    have l2_5 := i2.f5
    have s2 := i2.size
    have hb2 := i2.bel
    have s2' : ¬ w.heap.size + 2 = w2.heap.size := by omega
    go_wp2_with fail
    refine bodyPost_ret (v := .tuple #[.agg #[.int .i64 r1, .int .i64 r2], .bool r3]) (by simp [results, Try.results28, go_sem, *]) rfl ⟨by rw [← hf.out] <;> rfl, ?_⟩
    repeat first | exact hb2 | (refine Below.setCell ?_ ?_ _; rotate_left; (simp; try omega)) | (refine Below.alloc ?_ ?_ _; rotate_left; (simp; try omega)) | refine Below.drew ?_
end Go.Proofs.Ytekippmdlcbdlaa
