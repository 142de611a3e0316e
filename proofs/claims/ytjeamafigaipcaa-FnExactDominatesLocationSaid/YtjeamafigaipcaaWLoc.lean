/- The walks of the laws on IsLocation, DominatesLocation. No condition. -/
import Derived.Test.YtjeamafigaipcaaLoc
namespace Go.Proofs.Ytjeamafigaipcaa
open Go.RowKit Go.Deep
set_option maxRecDepth 100000 in
set_option maxHeartbeats 1000000 in
theorem isLocation_walk (a0 : Option Addr) (len0 cap0 : Nat) (z0 : List Int) (w : World) (p0 : IsRow .i64 w a0 len0 cap0 z0) :
    Calls Try.prog 4 #[.slice a0 len0 cap0] w fun e w' => e = .returned (.bool true) ∧ Below w.heap.size w w' := by
  obtain ⟨r0, m0⟩ := rdI_of_row p0
  clear p0
  unfold maxLen at m0
  generalize z0.take len0 = l0 at r0
  by_cases h0 : len0 ≤ 1048576
  · skip
    have hl0 := Lib.hid r0.1
    have hb0 : l0.length ≤ 1048576 := by rw [hl0.out]; exact h0
    go_enter Try.func4, Try.ntmps4
    go_wp2_with fail
    refine (toIntS_any _ _ _ _ _ _ r0 (by omega) h0).mono ?_
    rintro e w1 ⟨rfl, o1, b1⟩
    have s1 := b1.size
    have r0_1 := r0.belowB b1 (by omega)
    clear r0
    have t1 := below_chain (Below.refl w.heap.size w) b1 (by omega)
    clear b1
    go_wp2_with fail
    refine (spec_IsLocation_any _ _ _ _ _ ((o1.rd hl0.out).more (by omega)) (by omega)).mono ?_
    rintro e w' ⟨rfl, rfl⟩
    clear o1
    go_wp2_with fail
    refine (toIntS_any _ _ _ _ _ _ r0_1 (by omega) h0).mono ?_
    rintro e w2 ⟨rfl, x0, b2⟩
    have s2 := b2.size
    have r0_2 := r0_1.belowB b2 (by omega)
    clear r0_1
    have t2 := below_chain (t1) b2 (by omega)
    clear b2 t1
    go_wp2_with fail
    refine (impl_IsLocation_any _ _ _ _ _ ((x0.rd hl0.out).more (by omega)) (by omega)).mono ?_
    rintro e w' ⟨rfl, rfl⟩
    go_wp2_with fail
    refine (toIntS_any _ _ _ _ _ _ r0_2 (by omega) h0).mono ?_
    rintro e w3 ⟨rfl, o2, b3⟩
    have s3 := b3.size
    have r0_3 := r0_2.belowB b3 (by omega)
    clear r0_2
    have x0_3 := x0.below b3 (by omega)
    clear x0
    have t3 := below_chain (t2) b3 (by omega)
    clear b3 t2
    go_wp2_with fail
    refine (eqIntS_same _ _ _ _ _ _ _ _ _ _ (x0_3.rd hl0.out) (o2.rd hl0.out) (by omega) (by omega) hb0).mono ?_
    rintro e w4 ⟨rfl, b4⟩
    have s4 := b4.size
    have r0_4 := r0_3.belowB b4 (by omega)
    clear r0_3
    have x0_4 := x0_3.below b4 (by omega)
    clear x0_3
    have o2_4 := o2.below b4 (by omega)
    clear o2
    have t4 := below_chain (t3) b4 (by omega)
    clear b4 t3
    go_wp2_with fail
    go_ret
    exact ⟨rfl, t4⟩
  · go_enter Try.func4, Try.ntmps4
    go_wp2_with fail
    go_ret
    exact ⟨rfl, Below.refl _ _⟩
set_option maxRecDepth 100000 in
set_option maxHeartbeats 1000000 in
theorem dominatesLocation_walk (a0 : Option Addr) (len0 cap0 : Nat) (z0 : List Int) (a1 : Option Addr) (len1 cap1 : Nat) (z1 : List Int) (w : World) (p0 : IsRow .i64 w a0 len0 cap0 z0) (p1 : IsRow .i64 w a1 len1 cap1 z1) :
    Calls Try.prog 5 #[.slice a0 len0 cap0, .slice a1 len1 cap1] w fun e w' => e = .returned (.bool true) ∧ Below w.heap.size w w' := by
  obtain ⟨r0, m0⟩ := rdI_of_row p0
  clear p0
  unfold maxLen at m0
  generalize z0.take len0 = l0 at r0
  obtain ⟨r1, m1⟩ := rdI_of_row p1
  clear p1
  unfold maxLen at m1
  generalize z1.take len1 = l1 at r1
  by_cases h0 : len0 ≤ 1048576
  · skip
    by_cases h1 : len1 ≤ 1048576
    · skip
      have hl0 := Lib.hid r0.1
      have hb0 : l0.length ≤ 1048576 := by rw [hl0.out]; exact h0
      have hl1 := Lib.hid r1.1
      have hb1 : l1.length ≤ 1048576 := by rw [hl1.out]; exact h1
      go_enter Try.func5, Try.ntmps5
      go_wp2_with fail
      refine (toIntS_any _ _ _ _ _ _ r0 (by omega) h0).mono ?_
      rintro e w1 ⟨rfl, o1, b1⟩
      have s1 := b1.size
      have r0_1 := r0.belowB b1 (by omega)
      clear r0
      have r1_1 := r1.belowB b1 (by omega)
      clear r1
      have t1 := below_chain (Below.refl w.heap.size w) b1 (by omega)
      clear b1
      go_wp2_with fail
      refine (toIntS_any _ _ _ _ _ _ r1_1 (by omega) h1).mono ?_
      rintro e w2 ⟨rfl, o2, b2⟩
      have s2 := b2.size
      have r0_2 := r0_1.belowB b2 (by omega)
      clear r0_1
      have r1_2 := r1_1.belowB b2 (by omega)
      clear r1_1
      have o1_2 := o1.below b2 (by omega)
      clear o1
      have t2 := below_chain (t1) b2 (by omega)
      clear b2 t1
      go_wp2_with fail
      refine (spec_DominatesLocation_any _ _ _ _ _ _ _ _ _ ((o1_2.rd hl0.out).more (by omega)) ((o2.rd hl1.out).more (by omega)) (by omega) (by omega)).mono ?_
      rintro e w3 ⟨q1, hq1, rfl, b3⟩
      have s3 := b3.size
      have r0_3 := r0_2.belowB b3 (by omega)
      clear r0_2
      have r1_3 := r1_2.belowB b3 (by omega)
      clear r1_2
      have o1_3 := o1_2.below b3 (by omega)
      clear o1_2
      have o2_3 := o2.below b3 (by omega)
      clear o2
      have t3 := below_chain (t2) b3 (by omega)
      clear b3 t2
      clear o1_3
      clear o2_3
      go_wp2_with fail
      refine (toIntS_any _ _ _ _ _ _ r0_3 (by omega) h0).mono ?_
      rintro e w4 ⟨rfl, x0, b4⟩
      have s4 := b4.size
      have r0_4 := r0_3.belowB b4 (by omega)
      clear r0_3
      have r1_4 := r1_3.belowB b4 (by omega)
      clear r1_3
      have t4 := below_chain (t3) b4 (by omega)
      clear b4 t3
      go_wp2_with fail
      refine (toIntS_any _ _ _ _ _ _ r1_4 (by omega) h1).mono ?_
      rintro e w5 ⟨rfl, x1, b5⟩
      have s5 := b5.size
      have r0_5 := r0_4.belowB b5 (by omega)
      clear r0_4
      have r1_5 := r1_4.belowB b5 (by omega)
      clear r1_4
      have x0_5 := x0.below b5 (by omega)
      clear x0
      have t5 := below_chain (t4) b5 (by omega)
      clear b5 t4
      go_wp2_with fail
      refine (impl_DominatesLocation_any _ _ _ _ _ _ _ _ _ ((x0_5.rd hl0.out).more (by omega)) ((x1.rd hl1.out).more (by omega)) (by omega) (by omega)).mono ?_
      rintro e w6 ⟨q2, hq2, rfl, b6⟩
      have s6 := b6.size
      have r0_6 := r0_5.belowB b6 (by omega)
      clear r0_5
      have r1_6 := r1_5.belowB b6 (by omega)
      clear r1_5
      have x0_6 := x0_5.below b6 (by omega)
      clear x0_5
      have x1_6 := x1.below b6 (by omega)
      clear x1
      have t6 := below_chain (t5) b6 (by omega)
      clear b6 t5
      obtain rfl := bool_eq hq1 hq2
      clear hq1 hq2
      go_wp2_with fail
      refine (toIntS_any _ _ _ _ _ _ r0_6 (by omega) h0).mono ?_
      rintro e w7 ⟨rfl, o3, b7⟩
      have s7 := b7.size
      have r0_7 := r0_6.belowB b7 (by omega)
      clear r0_6
      have r1_7 := r1_6.belowB b7 (by omega)
      clear r1_6
      have x0_7 := x0_6.below b7 (by omega)
      clear x0_6
      have x1_7 := x1_6.below b7 (by omega)
      clear x1_6
      have t7 := below_chain (t6) b7 (by omega)
      clear b7 t6
      go_wp2_with fail
      refine (eqIntS_same _ _ _ _ _ _ _ _ _ _ (x0_7.rd hl0.out) (o3.rd hl0.out) (by omega) (by omega) hb0).mono ?_
      rintro e w8 ⟨rfl, b8⟩
      have s8 := b8.size
      have r0_8 := r0_7.belowB b8 (by omega)
      clear r0_7
      have r1_8 := r1_7.belowB b8 (by omega)
      clear r1_7
      have x0_8 := x0_7.below b8 (by omega)
      clear x0_7
      have x1_8 := x1_7.below b8 (by omega)
      clear x1_7
      have o3_8 := o3.below b8 (by omega)
      clear o3
      have t8 := below_chain (t7) b8 (by omega)
      clear b8 t7
      clear x0_8
      clear o3_8
      go_wp2_with fail
      refine (toIntS_any _ _ _ _ _ _ r1_8 (by omega) h1).mono ?_
      rintro e w9 ⟨rfl, o4, b9⟩
      have s9 := b9.size
      have r0_9 := r0_8.belowB b9 (by omega)
      clear r0_8
      have r1_9 := r1_8.belowB b9 (by omega)
      clear r1_8
      have x1_9 := x1_8.below b9 (by omega)
      clear x1_8
      have t9 := below_chain (t8) b9 (by omega)
      clear b9 t8
      go_wp2_with fail
      refine (eqIntS_same _ _ _ _ _ _ _ _ _ _ (x1_9.rd hl1.out) (o4.rd hl1.out) (by omega) (by omega) hb1).mono ?_
      rintro e w10 ⟨rfl, b10⟩
      have s10 := b10.size
      have r0_10 := r0_9.belowB b10 (by omega)
      clear r0_9
      have r1_10 := r1_9.belowB b10 (by omega)
      clear r1_9
      have x1_10 := x1_9.below b10 (by omega)
      clear x1_9
      have o4_10 := o4.below b10 (by omega)
      clear o4
      have t10 := below_chain (t9) b10 (by omega)
      clear b10 t9
      go_wp2_with fail
      go_ret
      exact ⟨rfl, t10⟩
    · go_enter Try.func5, Try.ntmps5
      go_wp2_with fail
      go_ret
      exact ⟨rfl, Below.refl _ _⟩
  · go_enter Try.func5, Try.ntmps5
    go_wp2_with fail
    go_ret
    exact ⟨rfl, Below.refl _ _⟩
end Go.Proofs.Ytjeamafigaipcaa
