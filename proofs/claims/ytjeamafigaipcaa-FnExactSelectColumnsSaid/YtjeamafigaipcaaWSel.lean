/- The walks of the laws on SelectColumns. No condition. -/
import Derived.Test.YtjeamafigaipcaaSel
import Derived.Test.YtjeamafigaipcaaMark
namespace Go.Proofs.Ytjeamafigaipcaa
open Go.RowKit Go.Deep
set_option maxRecDepth 100000 in
set_option maxHeartbeats 1000000 in
theorem selectColumns_walk (a0 : Option Addr) (len0 cap0 : Nat) (z0 : List Int) (a1 : Option Addr) (len1 cap1 : Nat) (z1 : List Int) (w : World) (p0 : IsRow .i64 w a0 len0 cap0 z0) (p1 : IsRow .i64 w a1 len1 cap1 z1) :
    Calls Try.prog 8 #[.slice a0 len0 cap0, .slice a1 len1 cap1] w fun e w' => e = .returned (.bool true) ∧ Below w.heap.size w w' := by
  obtain ⟨r0, m0⟩ := rdI_of_row p0
  clear p0
  unfold maxLen at m0
  generalize z0.take len0 = l0 at r0
  obtain ⟨r1, m1⟩ := rdI_of_row p1
  clear p1
  unfold maxLen at m1
  generalize z1.take len1 = l1 at r1
  by_cases h0 : len0 ≤ 1048576
  · skip
    by_cases h1 : len1 ≤ 1048576
    · skip
      have hl0 := Lib.hid r0.1
      have hb0 : l0.length ≤ 1048576 := by rw [hl0.out]; exact h0
      have hl1 := Lib.hid r1.1
      have hb1 : l1.length ≤ 1048576 := by rw [hl1.out]; exact h1
      have hR : (selR l0 l1).1.length ≤ 1048576 := Nat.le_trans (selR_len l0 l1) hb1
      go_enter Try.func8, Try.ntmps8
      go_wp2_with fail
      refine (toIntS_any _ _ _ _ _ _ r0 (by omega) h0).mono ?_
      rintro e w1 ⟨rfl, o0, b1⟩
      have s1 := b1.size
      have r0_1 := r0.belowB b1 (by omega)
      clear r0
      have r1_1 := r1.belowB b1 (by omega)
      clear r1
      have t1 := below_chain (Below.refl w.heap.size w) b1 (by omega)
      clear b1
      go_wp2_with fail
      refine (toIntS_any _ _ _ _ _ _ r1_1 (by omega) h1).mono ?_
      rintro e w2 ⟨rfl, o1, b2⟩
      have s2 := b2.size
      have r0_2 := r0_1.belowB b2 (by omega)
      clear r0_1
      have r1_2 := r1_1.belowB b2 (by omega)
      clear r1_1
      have o0_2 := o0.below b2 (by omega)
      clear o0
      have t2 := below_chain (t1) b2 (by omega)
      clear b2 t1
      go_wp2_with fail
      refine (spec_SelectColumns_any _ _ _ _ _ _ _ _ _ ((o0_2.rd hl0.out).more (by omega)) ((o1.rd hl1.out).more (by omega)) h0 h1).mono ?_
      rintro e w3 ⟨Aw, cw, rfl, g1, b3⟩
      have s3 := b3.size
      have r0_3 := r0_2.belowB b3 (by omega)
      clear r0_2
      have r1_3 := r1_2.belowB b3 (by omega)
      clear r1_2
      have o0_3 := o0_2.below b3 (by omega)
      clear o0_2
      have o1_3 := o1.below b3 (by omega)
      clear o1
      have t3 := below_chain (t2) b3 (by omega)
      clear b3 t2
      clear o0_3
      clear o1_3
      go_wp2_with fail
      refine (toIntS_any _ _ _ _ _ _ r0_3 (by omega) h0).mono ?_
      rintro e w4 ⟨rfl, x0, b4⟩
      have s4 := b4.size
      have r0_4 := r0_3.belowB b4 (by omega)
      clear r0_3
      have r1_4 := r1_3.belowB b4 (by omega)
      clear r1_3
      have g1_4 := g1.below b4 (by omega)
      clear g1
      have t4 := below_chain (t3) b4 (by omega)
      clear b4 t3
      go_wp2_with fail
      refine (toIntS_any _ _ _ _ _ _ r1_4 (by omega) h1).mono ?_
      rintro e w5 ⟨rfl, x1, b5⟩
      have s5 := b5.size
      have r0_5 := r0_4.belowB b5 (by omega)
      clear r0_4
      have r1_5 := r1_4.belowB b5 (by omega)
      clear r1_4
      have g1_5 := g1_4.below b5 (by omega)
      clear g1_4
      have x0_5 := x0.below b5 (by omega)
      clear x0
      have t5 := below_chain (t4) b5 (by omega)
      clear b5 t4
      go_wp2_with fail
      refine (impl_SelectColumns_any _ _ _ _ _ _ _ _ _ ((x0_5.rd hl0.out).more (by omega)) ((x1.rd hl1.out).more (by omega)) h0 h1).mono ?_
      rintro e w6 ⟨Ag, cg, rfl, g2, b6⟩
      have s6 := b6.size
      have r0_6 := r0_5.belowB b6 (by omega)
      clear r0_5
      have r1_6 := r1_5.belowB b6 (by omega)
      clear r1_5
      have g1_6 := g1_5.below b6 (by omega)
      clear g1_5
      have x0_6 := x0_5.below b6 (by omega)
      clear x0_5
      have x1_6 := x1.below b6 (by omega)
      clear x1
      have t6 := below_chain (t5) b6 (by omega)
      clear b6 t5
      go_wp2_with fail
      refine (eqIntS_same _ _ _ _ _ _ _ _ _ _ (g2.rd rfl) (g1_6.rd rfl) (by omega) (by omega) hR).mono ?_
      rintro e w7 ⟨rfl, b7⟩
      have s7 := b7.size
      have r0_7 := r0_6.belowB b7 (by omega)
      clear r0_6
      have r1_7 := r1_6.belowB b7 (by omega)
      clear r1_6
      have g1_7 := g1_6.below b7 (by omega)
      clear g1_6
      have x0_7 := x0_6.below b7 (by omega)
      clear x0_6
      have x1_7 := x1_6.below b7 (by omega)
      clear x1_6
      have g2_7 := g2.below b7 (by omega)
      clear g2
      have t7 := below_chain (t6) b7 (by omega)
      clear b7 t6
      go_wp2_with fail
      refine (toIntS_any _ _ _ _ _ _ r0_7 (by omega) h0).mono ?_
      rintro e w8 ⟨rfl, y0, b8⟩
      have s8 := b8.size
      have r0_8 := r0_7.belowB b8 (by omega)
      clear r0_7
      have r1_8 := r1_7.belowB b8 (by omega)
      clear r1_7
      have g1_8 := g1_7.below b8 (by omega)
      clear g1_7
      have x0_8 := x0_7.below b8 (by omega)
      clear x0_7
      have x1_8 := x1_7.below b8 (by omega)
      clear x1_7
      have g2_8 := g2_7.below b8 (by omega)
      clear g2_7
      have t8 := below_chain (t7) b8 (by omega)
      clear b8 t7
      go_wp2_with fail
      refine (eqIntS_same _ _ _ _ _ _ _ _ _ _ (x0_8.rd hl0.out) (y0.rd hl0.out) (by omega) (by omega) hb0).mono ?_
      rintro e w9 ⟨rfl, b9⟩
      have s9 := b9.size
      have r0_9 := r0_8.belowB b9 (by omega)
      clear r0_8
      have r1_9 := r1_8.belowB b9 (by omega)
      clear r1_8
      have g1_9 := g1_8.below b9 (by omega)
      clear g1_8
      have x0_9 := x0_8.below b9 (by omega)
      clear x0_8
      have x1_9 := x1_8.below b9 (by omega)
      clear x1_8
      have g2_9 := g2_8.below b9 (by omega)
      clear g2_8
      have y0_9 := y0.below b9 (by omega)
      clear y0
      have t9 := below_chain (t8) b9 (by omega)
      clear b9 t8
      clear y0_9
      go_wp2_with fail
      refine (toIntS_any _ _ _ _ _ _ r1_9 (by omega) h1).mono ?_
      rintro e w10 ⟨rfl, y1, b10⟩
      have s10 := b10.size
      have r0_10 := r0_9.belowB b10 (by omega)
      clear r0_9
      have r1_10 := r1_9.belowB b10 (by omega)
      clear r1_9
      have g1_10 := g1_9.below b10 (by omega)
      clear g1_9
      have x0_10 := x0_9.below b10 (by omega)
      clear x0_9
      have x1_10 := x1_9.below b10 (by omega)
      clear x1_9
      have g2_10 := g2_9.below b10 (by omega)
      clear g2_9
      have t10 := below_chain (t9) b10 (by omega)
      clear b10 t9
      go_wp2_with fail
      refine (eqIntS_same _ _ _ _ _ _ _ _ _ _ (x1_10.rd hl1.out) (y1.rd hl1.out) (by omega) (by omega) hb1).mono ?_
      rintro e w11 ⟨rfl, b11⟩
      have s11 := b11.size
      have r0_11 := r0_10.belowB b11 (by omega)
      clear r0_10
      have r1_11 := r1_10.belowB b11 (by omega)
      clear r1_10
      have g1_11 := g1_10.below b11 (by omega)
      clear g1_10
      have x0_11 := x0_10.below b11 (by omega)
      clear x0_10
      have x1_11 := x1_10.below b11 (by omega)
      clear x1_10
      have g2_11 := g2_10.below b11 (by omega)
      clear g2_10
      have y1_11 := y1.below b11 (by omega)
      clear y1
      have t11 := below_chain (t10) b11 (by omega)
      clear b11 t10
      clear y1_11
      go_wp2_with fail
      refine (markIntS_any _ _ _ _ _ _ _ _ x0_11 hl0.out (by omega) (by omega) (by omega)).mono ?_
      rintro e w12 ⟨rfl, x0m, b12⟩
      have s12 := b12.size
      have r0_12 := r0_11.chg b12 (by omega) (by omega)
      clear r0_11
      have r1_12 := r1_11.chg b12 (by omega) (by omega)
      clear r1_11
      have g1_12 := g1_11.chg b12 (by omega)
      clear g1_11
      have x1_12 := x1_11.chg b12 (by omega)
      clear x1_11
      have g2_12 := g2_11.chg b12 (by omega)
      clear g2_11
      have t12 := (t11).trans (b12.below (by omega) (by omega))
      clear b12 t11
      clear x0m
      go_wp2_with fail
      refine (markIntS_any _ _ _ _ _ _ _ _ x1_12 hl1.out (by omega) (by omega) (by omega)).mono ?_
      rintro e w13 ⟨rfl, x1m, b13⟩
      have s13 := b13.size
      have r0_13 := r0_12.chg b13 (by omega) (by omega)
      clear r0_12
      have r1_13 := r1_12.chg b13 (by omega) (by omega)
      clear r1_12
      have g1_13 := g1_12.chg b13 (by omega)
      clear g1_12
      have g2_13 := g2_12.chg b13 (by omega)
      clear g2_12
      have t13 := (t12).trans (b13.below (by omega) (by omega))
      clear b13 t12
      clear x1m
      go_wp2_with fail
      refine (eqIntS_same _ _ _ _ _ _ _ _ _ _ (g2_13.rd rfl) (g1_13.rd rfl) (by omega) (by omega) hR).mono ?_
      rintro e w14 ⟨rfl, b14⟩
      have s14 := b14.size
      have r0_14 := r0_13.belowB b14 (by omega)
      clear r0_13
      have r1_14 := r1_13.belowB b14 (by omega)
      clear r1_13
      have g1_14 := g1_13.below b14 (by omega)
      clear g1_13
      have g2_14 := g2_13.below b14 (by omega)
      clear g2_13
      have t14 := below_chain (t13) b14 (by omega)
      clear b14 t13
      go_wp2_with fail
      refine (markIntS_any _ _ _ _ _ _ _ _ g2_14 rfl (by omega) (by omega) (by omega)).mono ?_
      rintro e w15 ⟨rfl, gm, b15⟩
      have s15 := b15.size
      have r0_15 := r0_14.chg b15 (by omega) (by omega)
      clear r0_14
      have r1_15 := r1_14.chg b15 (by omega) (by omega)
      clear r1_14
      have g1_15 := g1_14.chg b15 (by omega)
      clear g1_14
      have t15 := (t14).trans (b15.below (by omega) (by omega))
      clear b15 t14
      go_wp2_with fail
      refine (heldIntS_any _ _ _ _ _ _ (gm.rd (cnt_length _ _)) (by omega) (by omega) (by omega)).mono ?_
      rintro e w' ⟨rfl, rfl⟩
      go_wp2_with fail
      refine (toIntS_any _ _ _ _ _ _ r0_15 (by omega) h0).mono ?_
      rintro e w16 ⟨rfl, z0, b16⟩
      have s16 := b16.size
      have r0_16 := r0_15.belowB b16 (by omega)
      clear r0_15
      have r1_16 := r1_15.belowB b16 (by omega)
      clear r1_15
      have g1_16 := g1_15.below b16 (by omega)
      clear g1_15
      have g2_16 := gm.below b16 (by omega)
      clear gm
      have t16 := below_chain (t15) b16 (by omega)
      clear b16 t15
      go_wp2_with fail
      refine (toIntS_any _ _ _ _ _ _ r1_16 (by omega) h1).mono ?_
      rintro e w17 ⟨rfl, z1, b17⟩
      have s17 := b17.size
      have r0_17 := r0_16.belowB b17 (by omega)
      clear r0_16
      have r1_17 := r1_16.belowB b17 (by omega)
      clear r1_16
      have g1_17 := g1_16.below b17 (by omega)
      clear g1_16
      have g2_17 := g2_16.below b17 (by omega)
      clear g2_16
      have z0_17 := z0.below b17 (by omega)
      clear z0
      have t17 := below_chain (t16) b17 (by omega)
      clear b17 t16
      go_wp2_with fail
      refine (impl_SelectColumns_any _ _ _ _ _ _ _ _ _ ((z0_17.rd hl0.out).more (by omega)) ((z1.rd hl1.out).more (by omega)) h0 h1).mono ?_
      rintro e w18 ⟨Ah, ch, rfl, g3, b18⟩
      have s18 := b18.size
      have r0_18 := r0_17.belowB b18 (by omega)
      clear r0_17
      have r1_18 := r1_17.belowB b18 (by omega)
      clear r1_17
      have g1_18 := g1_17.below b18 (by omega)
      clear g1_17
      have g2_18 := g2_17.below b18 (by omega)
      clear g2_17
      have z0_18 := z0_17.below b18 (by omega)
      clear z0_17
      have z1_18 := z1.below b18 (by omega)
      clear z1
      have t18 := below_chain (t17) b18 (by omega)
      clear b18 t17
      clear z0_18
      clear z1_18
      go_wp2_with fail
      refine (eqIntS_same _ _ _ _ _ _ _ _ _ _ (g3.rd rfl) (g1_18.rd rfl) (by omega) (by omega) hR).mono ?_
      rintro e w19 ⟨rfl, b19⟩
      have s19 := b19.size
      have r0_19 := r0_18.belowB b19 (by omega)
      clear r0_18
      have r1_19 := r1_18.belowB b19 (by omega)
      clear r1_18
      have g1_19 := g1_18.below b19 (by omega)
      clear g1_18
      have g2_19 := g2_18.below b19 (by omega)
      clear g2_18
      have g3_19 := g3.below b19 (by omega)
      clear g3
      have t19 := below_chain (t18) b19 (by omega)
      clear b19 t18
      clear g3_19
      clear g1_19
      go_wp2_with fail
      refine (heldIntS_any _ _ _ _ _ _ (g2_19.rd (cnt_length _ _)) (by omega) (by omega) (by omega)).mono ?_
      rintro e w' ⟨rfl, rfl⟩
      go_wp2_with fail
      go_ret
      exact ⟨rfl, t19⟩
    · go_enter Try.func8, Try.ntmps8
      go_wp2_with fail
      go_ret
      exact ⟨rfl, Below.refl _ _⟩
  · go_enter Try.func8, Try.ntmps8
    go_wp2_with fail
    go_ret
    exact ⟨rfl, Below.refl _ _⟩
end Go.Proofs.Ytjeamafigaipcaa
