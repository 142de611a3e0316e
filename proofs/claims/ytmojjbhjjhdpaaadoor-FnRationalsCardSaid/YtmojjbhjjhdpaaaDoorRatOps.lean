/- OimplAdd, OimplSubtract, OimplMultiply, OimplDivide, in one text, as far as the seat's program has the functions (printed by tools/fit.py). -/
import Derived.Test.YtmojjbhjjhdpaaaDoorRatMk
import Derived.Test.YtmojjbhjjhdpaaaDoorInv3
namespace Go.Proofs.YtmojjbhjjhdpaaaDoor

section
open Go.RowKit

set_option maxRecDepth 100000 in
set_option maxHeartbeats 1000000 in
theorem impl_Add_any (n d n' d' : Int) (w : World) :
    Calls Tryd.prog 53 #[.agg #[.int .i64 n, .int .i64 d], .agg #[.int .i64 n', .int .i64 d']] w fun e w' => e = .returned (ratV (opR n d n' d' (n * d' + n' * d) (d * d'))) ∧ Below w.heap.size w w' := by
  have i0 := Inv3.start w n d n' d' 30
  cases hv : validR n d with
  | false =>
    have hf := Lib.hid (ratV_of (opR_1 (n' := n') (d' := d') (X := (n * d' + n' * d)) (Y := (d * d')) hv))
    go_enter Tryd.func53, Tryd.ntmps53
    go_wp2_with fail
    refine (impl_IsValid_any n d _).mono ?_
    rintro e w1 ⟨rfl, b1⟩
    have i1 := i0.next b1
    clear i0 b1
    have k1_0 := i1.c0
    have k1_1 := i1.c1
    have k1_2 := i1.c2
    have k1_3 := i1.c3
    have k1_4 := i1.c4
    have k1_5 := i1.c5
    have l1_4 := i1.f4
    have l1_5 := i1.f5
    have s1 := i1.size
    have hb1 := i1.bel
    go_wp2_with fail
    refine bodyPost_ret (v := .tuple #[.agg #[.int .i64 0, .int .i64 0], .bool false]) (by simp [results, Tryd.results53, go_sem, *]) rfl ⟨by rw [hf.out] <;> rfl, ?_⟩
    repeat first | exact hb1 | (refine Below.setCell ?_ ?_ _; rotate_left; (simp; try omega)) | (refine Below.alloc ?_ ?_ _; rotate_left; (simp; try omega)) | refine Below.drew ?_
  | true =>
    cases hv' : validR n' d' with
    | false =>
      have hf := Lib.hid (ratV_of (opR_2 (n := n) (d := d) (X := (n * d' + n' * d)) (Y := (d * d')) hv'))
      go_enter Tryd.func53, Tryd.ntmps53
      go_wp2_with fail
      refine (impl_IsValid_any n d _).mono ?_
      rintro e w1 ⟨rfl, b1⟩
      have i1 := i0.next b1
      clear i0 b1
      have k1_0 := i1.c0
      have k1_1 := i1.c1
      have k1_2 := i1.c2
      have k1_3 := i1.c3
      have k1_4 := i1.c4
      have k1_5 := i1.c5
      have l1_4 := i1.f4
      have l1_5 := i1.f5
      have s1 := i1.size
      have hb1 := i1.bel
      go_wp2_with fail
      clear k1_0 k1_1 k1_2 k1_3 k1_4 k1_5 l1_4 l1_5 s1 hb1
      refine (impl_IsValid_any n' d' _).mono ?_
      rintro e w2 ⟨rfl, b2⟩
      have i2 := i1.next b2
      clear i1 b2
      have k2_0 := i2.c0
      have k2_1 := i2.c1
      have k2_2 := i2.c2
      have k2_3 := i2.c3
      have k2_4 := i2.c4
      have k2_5 := i2.c5
      have l2_4 := i2.f4
      have l2_5 := i2.f5
      have s2 := i2.size
      have hb2 := i2.bel
      go_wp2_with fail
      refine bodyPost_ret (v := .tuple #[.agg #[.int .i64 0, .int .i64 0], .bool false]) (by simp [results, Tryd.results53, go_sem, *]) rfl ⟨by rw [hf.out] <;> rfl, ?_⟩
      repeat first | exact hb2 | (refine Below.setCell ?_ ?_ _; rotate_left; (simp; try omega)) | (refine Below.alloc ?_ ?_ _; rotate_left; (simp; try omega)) | refine Below.drew ?_
    | true =>
      obtain ⟨d1, d2, n1, n2⟩ := valid_bd hv
      obtain ⟨d1', d2', n1', n2'⟩ := valid_bd hv'
      have hf0 := opR_3 (X := (n * d' + n' * d)) (Y := (d * d')) hv hv'
      obtain ⟨pa, pb⟩ := mul_bd (a := n) (b := d') (by omega) (by omega) (by omega) (by omega)
      obtain ⟨qa, qb⟩ := mul_bd (a := n') (b := d) (by omega) (by omega) (by omega) (by omega)
      obtain ⟨ra, rb⟩ := mul_bd (a := d) (b := d') (by omega) (by omega) (by omega) (by omega)
      have g1 : IntKind.i64.wrap (n * d') = n * d' := IntWalk.i64_in _ (by omega)
      have g2 : IntKind.i64.wrap (n' * d) = n' * d := IntWalk.i64_in _ (by omega)
      have g3 : IntKind.i64.wrap (d * d') = d * d' := IntWalk.i64_in _ (by omega)
      have g4 : IntKind.i64.wrap (n * d' + n' * d) = (n * d' + n' * d) := IntWalk.i64_in _ (by omega)
      have KM := Lib.hid (fun W => impl_Make_any (n * d' + n' * d) (d * d') W (by omega) (by omega))
      clear pa pb qa qb ra rb
      have hf : Hid (ratV (opR n d n' d' (n * d' + n' * d) (d * d')) = ratV (makeR (n * d' + n' * d) (d * d'))) := by show _ = _; rw [hf0]
      clear hf0
      generalize makeR (n * d' + n' * d) (d * d') = r at hf KM
      obtain ⟨r1, r2, r3⟩ := r
      simp only [ratV] at KM
      go_enter Tryd.func53, Tryd.ntmps53
      go_wp2_with fail
      refine (impl_IsValid_any n d _).mono ?_
      rintro e w1 ⟨rfl, b1⟩
      have i1 := i0.next b1
      clear i0 b1
      have k1_0 := i1.c0
      have k1_1 := i1.c1
      have k1_2 := i1.c2
      have k1_3 := i1.c3
      have k1_4 := i1.c4
      have k1_5 := i1.c5
      have l1_4 := i1.f4
      have l1_5 := i1.f5
      have s1 := i1.size
      have hb1 := i1.bel
      go_wp2_with fail
      clear k1_0 k1_1 k1_2 k1_3 k1_4 k1_5 l1_4 l1_5 s1 hb1
      refine (impl_IsValid_any n' d' _).mono ?_
      rintro e w2 ⟨rfl, b2⟩
      have i2 := i1.next b2
      clear i1 b2
      have k2_0 := i2.c0
      have k2_1 := i2.c1
      have k2_2 := i2.c2
      have k2_3 := i2.c3
      have k2_4 := i2.c4
      have k2_5 := i2.c5
      have l2_4 := i2.f4
      have l2_5 := i2.f5
      have s2 := i2.size
      have hb2 := i2.bel
      go_wp2_with fail
      clear k2_0 k2_1 k2_2 k2_3 k2_4 k2_5 l2_4 l2_5 s2 hb2
      refine (KM.out _).mono ?_
      rintro e w3 ⟨rfl, b3⟩
      have i3 := i2.next b3
      clear i2 b3
      have k3_0 := i3.c0
      have k3_1 := i3.c1
      have k3_2 := i3.c2
      have k3_3 := i3.c3
      have k3_4 := i3.c4
      have k3_5 := i3.c5
      have l3_4 := i3.f4
      have l3_5 := i3.f5
      have s3 := i3.size
      have hb3 := i3.bel
      have s3' : ¬ w.heap.size + 2 = w3.heap.size := by omega
      go_wp2_with fail
      refine bodyPost_ret (v := .tuple #[.agg #[.int .i64 r1, .int .i64 r2], .bool r3]) (by simp [results, Tryd.results53, go_sem, *]) rfl ⟨by rw [hf.out] <;> rfl, ?_⟩
      repeat first | exact hb3 | (refine Below.setCell ?_ ?_ _; rotate_left; (simp; try omega)) | (refine Below.alloc ?_ ?_ _; rotate_left; (simp; try omega)) | refine Below.drew ?_

end

section
open Go.RowKit

theorem validR_neg (n d : Int) : validR (-n) d = validR n d := by
  unfold validR
  have h1 : inB (-n) (-2147483647) 2147483647 = inB n (-2147483647) 2147483647 := by
    rw [Bool.eq_iff_iff, inB_iff, inB_iff]
    omega
  rw [h1, Int.neg_gcd]

theorem opR_sub (n d n' d' : Int) : opR n d (-n') d' (n * d' + -n' * d) (d * d') = opR n d n' d' (n * d' - n' * d) (d * d') := by
  unfold opR
  rw [validR_neg, Int.neg_mul, ← Int.sub_eq_add_neg]

set_option maxRecDepth 100000 in
set_option maxHeartbeats 1000000 in
theorem impl_Subtract_any (n d n' d' : Int) (w : World) :
    Calls Tryd.prog 55 #[.agg #[.int .i64 n, .int .i64 d], .agg #[.int .i64 n', .int .i64 d']] w fun e w' => e = .returned (ratV (opR n d n' d' (n * d' - n' * d) (d * d'))) ∧ Below w.heap.size w w' := by
  have i0 := Inv3.start w n d n' d' 30
  cases hv : validR n' d' with
  | false =>
    have hf := Lib.hid (ratV_of (opR_2 (n := n) (d := d) (X := (n * d' - n' * d)) (Y := (d * d')) hv))
    go_enter Tryd.func55, Tryd.ntmps55
    go_wp2_with fail
    refine (impl_IsValid_any n' d' _).mono ?_
    rintro e w1 ⟨rfl, b1⟩
    have i1 := i0.next b1
    clear i0 b1
    have k1_4 := i1.c4
    have k1_5 := i1.c5
    have l1_4 := i1.f4
    have l1_5 := i1.f5
    have s1 := i1.size
    have hb1 := i1.bel
    go_wp2_with fail
    refine bodyPost_ret (v := .tuple #[.agg #[.int .i64 0, .int .i64 0], .bool false]) (by simp [results, Tryd.results55, go_sem, *]) rfl ⟨by rw [hf.out] <;> rfl, ?_⟩
    repeat first | exact hb1 | (refine Below.setCell ?_ ?_ _; rotate_left; (simp; try omega)) | (refine Below.alloc ?_ ?_ _; rotate_left; (simp; try omega)) | refine Below.drew ?_
  | true =>
    obtain ⟨d1, d2, n1, n2⟩ := valid_bd hv
    have KM := Lib.hid (fun W => impl_Add_any n d (-n') d' W)
    have hf : Hid (ratV (opR n d (-n') d' (n * d' + -n' * d) (d * d')) = ratV (opR n d n' d' (n * d' - n' * d) (d * d'))) := by show _ = _; rw [opR_sub]
    have g1 : IntKind.i64.wrap (-n') = -n' := IntWalk.i64_in _ (by omega)
    generalize opR n d (-n') d' (n * d' + -n' * d) (d * d') = r at hf KM
    obtain ⟨r1, r2, r3⟩ := r
    simp only [ratV] at KM
    go_enter Tryd.func55, Tryd.ntmps55
    go_wp2_with fail
    refine (impl_IsValid_any n' d' _).mono ?_
    rintro e w1 ⟨rfl, b1⟩
    have i1 := i0.next b1
    clear i0 b1
    have k1_0 := i1.c0
    have k1_1 := i1.c1
    have k1_2 := i1.c2
    have k1_3 := i1.c3
    have s1 := i1.size
    have hb1 := i1.bel
    go_wp2_with fail
    refine (KM.out _).mono ?_
    rintro e w2 ⟨rfl, b2⟩
    have i2 := i1.next b2
    clear i1 b2 k1_0 k1_1 k1_2 k1_3 s1 hb1
    have k2_4 := i2.c4
    have k2_5 := i2.c5
    have l2_4 := i2.f4
    have l2_5 := i2.f5
    have s2 := i2.size
    have hb2 := i2.bel
    have s2' : ¬ w.heap.size + 2 = w2.heap.size := by omega
    go_wp2_with fail
    refine bodyPost_ret (v := .tuple #[.agg #[.int .i64 r1, .int .i64 r2], .bool r3]) (by simp [results, Tryd.results55, go_sem, *]) rfl ⟨by rw [← hf.out] <;> rfl, ?_⟩
    repeat first | exact hb2 | (refine Below.setCell ?_ ?_ _; rotate_left; (simp; try omega)) | (refine Below.alloc ?_ ?_ _; rotate_left; (simp; try omega)) | refine Below.drew ?_

end

section
open Go.RowKit

set_option maxRecDepth 100000 in
set_option maxHeartbeats 1000000 in
theorem impl_Multiply_any (n d n' d' : Int) (w : World) :
    Calls Tryd.prog 56 #[.agg #[.int .i64 n, .int .i64 d], .agg #[.int .i64 n', .int .i64 d']] w fun e w' => e = .returned (ratV (opR n d n' d' (n * n') (d * d'))) ∧ Below w.heap.size w w' := by
  have i0 := Inv3.start w n d n' d' 30
  cases hv : validR n d with
  | false =>
    have hf := Lib.hid (ratV_of (opR_1 (n' := n') (d' := d') (X := (n * n')) (Y := (d * d')) hv))
    go_enter Tryd.func56, Tryd.ntmps56
    go_wp2_with fail
    refine (impl_IsValid_any n d _).mono ?_
    rintro e w1 ⟨rfl, b1⟩
    have i1 := i0.next b1
    clear i0 b1
    have k1_0 := i1.c0
    have k1_1 := i1.c1
    have k1_2 := i1.c2
    have k1_3 := i1.c3
    have k1_4 := i1.c4
    have k1_5 := i1.c5
    have l1_4 := i1.f4
    have l1_5 := i1.f5
    have s1 := i1.size
    have hb1 := i1.bel
    go_wp2_with fail
    refine bodyPost_ret (v := .tuple #[.agg #[.int .i64 0, .int .i64 0], .bool false]) (by simp [results, Tryd.results56, go_sem, *]) rfl ⟨by rw [hf.out] <;> rfl, ?_⟩
    repeat first | exact hb1 | (refine Below.setCell ?_ ?_ _; rotate_left; (simp; try omega)) | (refine Below.alloc ?_ ?_ _; rotate_left; (simp; try omega)) | refine Below.drew ?_
  | true =>
    cases hv' : validR n' d' with
    | false =>
      have hf := Lib.hid (ratV_of (opR_2 (n := n) (d := d) (X := (n * n')) (Y := (d * d')) hv'))
      go_enter Tryd.func56, Tryd.ntmps56
      go_wp2_with fail
      refine (impl_IsValid_any n d _).mono ?_
      rintro e w1 ⟨rfl, b1⟩
      have i1 := i0.next b1
      clear i0 b1
      have k1_0 := i1.c0
      have k1_1 := i1.c1
      have k1_2 := i1.c2
      have k1_3 := i1.c3
      have k1_4 := i1.c4
      have k1_5 := i1.c5
      have l1_4 := i1.f4
      have l1_5 := i1.f5
      have s1 := i1.size
      have hb1 := i1.bel
      go_wp2_with fail
      clear k1_0 k1_1 k1_2 k1_3 k1_4 k1_5 l1_4 l1_5 s1 hb1
      refine (impl_IsValid_any n' d' _).mono ?_
      rintro e w2 ⟨rfl, b2⟩
      have i2 := i1.next b2
      clear i1 b2
      have k2_0 := i2.c0
      have k2_1 := i2.c1
      have k2_2 := i2.c2
      have k2_3 := i2.c3
      have k2_4 := i2.c4
      have k2_5 := i2.c5
      have l2_4 := i2.f4
      have l2_5 := i2.f5
      have s2 := i2.size
      have hb2 := i2.bel
      go_wp2_with fail
      refine bodyPost_ret (v := .tuple #[.agg #[.int .i64 0, .int .i64 0], .bool false]) (by simp [results, Tryd.results56, go_sem, *]) rfl ⟨by rw [hf.out] <;> rfl, ?_⟩
      repeat first | exact hb2 | (refine Below.setCell ?_ ?_ _; rotate_left; (simp; try omega)) | (refine Below.alloc ?_ ?_ _; rotate_left; (simp; try omega)) | refine Below.drew ?_
    | true =>
      obtain ⟨d1, d2, n1, n2⟩ := valid_bd hv
      obtain ⟨d1', d2', n1', n2'⟩ := valid_bd hv'
      have hf0 := opR_3 (X := (n * n')) (Y := (d * d')) hv hv'
      obtain ⟨pa, pb⟩ : -4611686014132420609 ≤ n * n' ∧ n * n' ≤ 4611686014132420609 := by
        rcases Int.le_total 0 n' with h | h
        · exact mul_bd n1 n2 h n2'
        · have := mul_bd (a := n) (b := -n') n1 n2 (by omega) (by omega)
          rw [Int.mul_neg] at this; omega
      obtain ⟨ra, rb⟩ := mul_bd (a := d) (b := d') (by omega) (by omega) (by omega) (by omega)
      have g1 : IntKind.i64.wrap (n * n') = n * n' := IntWalk.i64_in _ (by omega)
      have g3 : IntKind.i64.wrap (d * d') = d * d' := IntWalk.i64_in _ (by omega)
      have KM := Lib.hid (fun W => impl_Make_any (n * n') (d * d') W (by omega) (by omega))
      clear pa pb ra rb
      have hf : Hid (ratV (opR n d n' d' (n * n') (d * d')) = ratV (makeR (n * n') (d * d'))) := by show _ = _; rw [hf0]
      clear hf0
      generalize makeR (n * n') (d * d') = r at hf KM
      obtain ⟨r1, r2, r3⟩ := r
      simp only [ratV] at KM
      go_enter Tryd.func56, Tryd.ntmps56
      go_wp2_with fail
      refine (impl_IsValid_any n d _).mono ?_
      rintro e w1 ⟨rfl, b1⟩
      have i1 := i0.next b1
      clear i0 b1
      have k1_0 := i1.c0
      have k1_1 := i1.c1
      have k1_2 := i1.c2
      have k1_3 := i1.c3
      have k1_4 := i1.c4
      have k1_5 := i1.c5
      have l1_4 := i1.f4
      have l1_5 := i1.f5
      have s1 := i1.size
      have hb1 := i1.bel
      go_wp2_with fail
      clear k1_0 k1_1 k1_2 k1_3 k1_4 k1_5 l1_4 l1_5 s1 hb1
      refine (impl_IsValid_any n' d' _).mono ?_
      rintro e w2 ⟨rfl, b2⟩
      have i2 := i1.next b2
      clear i1 b2
      have k2_0 := i2.c0
      have k2_1 := i2.c1
      have k2_2 := i2.c2
      have k2_3 := i2.c3
      have k2_4 := i2.c4
      have k2_5 := i2.c5
      have l2_4 := i2.f4
      have l2_5 := i2.f5
      have s2 := i2.size
      have hb2 := i2.bel
      go_wp2_with fail
      clear k2_0 k2_1 k2_2 k2_3 k2_4 k2_5 l2_4 l2_5 s2 hb2
      refine (KM.out _).mono ?_
      rintro e w3 ⟨rfl, b3⟩
      have i3 := i2.next b3
      clear i2 b3
      have k3_0 := i3.c0
      have k3_1 := i3.c1
      have k3_2 := i3.c2
      have k3_3 := i3.c3
      have k3_4 := i3.c4
      have k3_5 := i3.c5
      have l3_4 := i3.f4
      have l3_5 := i3.f5
      have s3 := i3.size
      have hb3 := i3.bel
      have s3' : ¬ w.heap.size + 2 = w3.heap.size := by omega
      go_wp2_with fail
      refine bodyPost_ret (v := .tuple #[.agg #[.int .i64 r1, .int .i64 r2], .bool r3]) (by simp [results, Tryd.results56, go_sem, *]) rfl ⟨by rw [hf.out] <;> rfl, ?_⟩
      repeat first | exact hb3 | (refine Below.setCell ?_ ?_ _; rotate_left; (simp; try omega)) | (refine Below.alloc ?_ ?_ _; rotate_left; (simp; try omega)) | refine Below.drew ?_

end

section
open Go.RowKit

set_option maxRecDepth 100000 in
set_option maxHeartbeats 1000000 in
theorem impl_Divide_any (n d n' d' : Int) (w : World) :
    Calls Tryd.prog 57 #[.agg #[.int .i64 n, .int .i64 d], .agg #[.int .i64 n', .int .i64 d']] w fun e w' => e = .returned (ratV (opR n d n' d' (n * d') (d * n'))) ∧ Below w.heap.size w w' := by
  have i0 := Inv3.start w n d n' d' 30
  cases hv : validR n d with
  | false =>
    have hf := Lib.hid (ratV_of (opR_1 (n' := n') (d' := d') (X := (n * d')) (Y := (d * n')) hv))
    go_enter Tryd.func57, Tryd.ntmps57
    go_wp2_with fail
    refine (impl_IsValid_any n d _).mono ?_
    rintro e w1 ⟨rfl, b1⟩
    have i1 := i0.next b1
    clear i0 b1
    have k1_0 := i1.c0
    have k1_1 := i1.c1
    have k1_2 := i1.c2
    have k1_3 := i1.c3
    have k1_4 := i1.c4
    have k1_5 := i1.c5
    have l1_4 := i1.f4
    have l1_5 := i1.f5
    have s1 := i1.size
    have hb1 := i1.bel
    go_wp2_with fail
    refine bodyPost_ret (v := .tuple #[.agg #[.int .i64 0, .int .i64 0], .bool false]) (by simp [results, Tryd.results57, go_sem, *]) rfl ⟨by rw [hf.out] <;> rfl, ?_⟩
    repeat first | exact hb1 | (refine Below.setCell ?_ ?_ _; rotate_left; (simp; try omega)) | (refine Below.alloc ?_ ?_ _; rotate_left; (simp; try omega)) | refine Below.drew ?_
  | true =>
    cases hv' : validR n' d' with
    | false =>
      have hf := Lib.hid (ratV_of (opR_2 (n := n) (d := d) (X := (n * d')) (Y := (d * n')) hv'))
      go_enter Tryd.func57, Tryd.ntmps57
      go_wp2_with fail
      refine (impl_IsValid_any n d _).mono ?_
      rintro e w1 ⟨rfl, b1⟩
      have i1 := i0.next b1
      clear i0 b1
      have k1_0 := i1.c0
      have k1_1 := i1.c1
      have k1_2 := i1.c2
      have k1_3 := i1.c3
      have k1_4 := i1.c4
      have k1_5 := i1.c5
      have l1_4 := i1.f4
      have l1_5 := i1.f5
      have s1 := i1.size
      have hb1 := i1.bel
      go_wp2_with fail
      clear k1_0 k1_1 k1_2 k1_3 k1_4 k1_5 l1_4 l1_5 s1 hb1
      refine (impl_IsValid_any n' d' _).mono ?_
      rintro e w2 ⟨rfl, b2⟩
      have i2 := i1.next b2
      clear i1 b2
      have k2_0 := i2.c0
      have k2_1 := i2.c1
      have k2_2 := i2.c2
      have k2_3 := i2.c3
      have k2_4 := i2.c4
      have k2_5 := i2.c5
      have l2_4 := i2.f4
      have l2_5 := i2.f5
      have s2 := i2.size
      have hb2 := i2.bel
      go_wp2_with fail
      refine bodyPost_ret (v := .tuple #[.agg #[.int .i64 0, .int .i64 0], .bool false]) (by simp [results, Tryd.results57, go_sem, *]) rfl ⟨by rw [hf.out] <;> rfl, ?_⟩
      repeat first | exact hb2 | (refine Below.setCell ?_ ?_ _; rotate_left; (simp; try omega)) | (refine Below.alloc ?_ ?_ _; rotate_left; (simp; try omega)) | refine Below.drew ?_
    | true =>
      obtain ⟨d1, d2, n1, n2⟩ := valid_bd hv
      obtain ⟨d1', d2', n1', n2'⟩ := valid_bd hv'
      have hf0 := opR_3 (X := (n * d')) (Y := (d * n')) hv hv'
      obtain ⟨pa, pb⟩ := mul_bd (a := n) (b := d') (by omega) (by omega) (by omega) (by omega)
      obtain ⟨ra, rb⟩ : -4611686014132420609 ≤ d * n' ∧ d * n' ≤ 4611686014132420609 := by
        have := mul_bd (a := n') (b := d) (by omega) (by omega) (by omega) (by omega)
        rwa [Int.mul_comm] at this
      have g1 : IntKind.i64.wrap (n * d') = n * d' := IntWalk.i64_in _ (by omega)
      have g3 : IntKind.i64.wrap (d * n') = d * n' := IntWalk.i64_in _ (by omega)
      have KM := Lib.hid (fun W => impl_Make_any (n * d') (d * n') W (by omega) (by omega))
      clear pa pb ra rb
      have hf : Hid (ratV (opR n d n' d' (n * d') (d * n')) = ratV (makeR (n * d') (d * n'))) := by show _ = _; rw [hf0]
      clear hf0
      generalize makeR (n * d') (d * n') = r at hf KM
      obtain ⟨r1, r2, r3⟩ := r
      simp only [ratV] at KM
      go_enter Tryd.func57, Tryd.ntmps57
      go_wp2_with fail
      refine (impl_IsValid_any n d _).mono ?_
      rintro e w1 ⟨rfl, b1⟩
      have i1 := i0.next b1
      clear i0 b1
      have k1_0 := i1.c0
      have k1_1 := i1.c1
      have k1_2 := i1.c2
      have k1_3 := i1.c3
      have k1_4 := i1.c4
      have k1_5 := i1.c5
      have l1_4 := i1.f4
      have l1_5 := i1.f5
      have s1 := i1.size
      have hb1 := i1.bel
      go_wp2_with fail
      clear k1_0 k1_1 k1_2 k1_3 k1_4 k1_5 l1_4 l1_5 s1 hb1
      refine (impl_IsValid_any n' d' _).mono ?_
      rintro e w2 ⟨rfl, b2⟩
      have i2 := i1.next b2
      clear i1 b2
      have k2_0 := i2.c0
      have k2_1 := i2.c1
      have k2_2 := i2.c2
      have k2_3 := i2.c3
      have k2_4 := i2.c4
      have k2_5 := i2.c5
      have l2_4 := i2.f4
      have l2_5 := i2.f5
      have s2 := i2.size
      have hb2 := i2.bel
      go_wp2_with fail
      clear k2_0 k2_1 k2_2 k2_3 k2_4 k2_5 l2_4 l2_5 s2 hb2
      refine (KM.out _).mono ?_
      rintro e w3 ⟨rfl, b3⟩
      have i3 := i2.next b3
      clear i2 b3
      have k3_0 := i3.c0
      have k3_1 := i3.c1
      have k3_2 := i3.c2
      have k3_3 := i3.c3
      have k3_4 := i3.c4
      have k3_5 := i3.c5
      have l3_4 := i3.f4
      have l3_5 := i3.f5
      have s3 := i3.size
      have hb3 := i3.bel
      have s3' : ¬ w.heap.size + 2 = w3.heap.size := by omega
      go_wp2_with fail
      refine bodyPost_ret (v := .tuple #[.agg #[.int .i64 r1, .int .i64 r2], .bool r3]) (by simp [results, Tryd.results57, go_sem, *]) rfl ⟨by rw [hf.out] <;> rfl, ?_⟩
      repeat first | exact hb3 | (refine Below.setCell ?_ ?_ _; rotate_left; (simp; try omega)) | (refine Below.alloc ?_ ?_ _; rotate_left; (simp; try omega)) | refine Below.drew ?_

end
end Go.Proofs.YtmojjbhjjhdpaaaDoor
