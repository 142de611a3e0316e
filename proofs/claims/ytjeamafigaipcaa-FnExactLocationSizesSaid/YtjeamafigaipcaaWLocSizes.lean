/- The walks of the laws on LocationSizes. No condition. -/
import Derived.Test.YtjeamafigaipcaaLocSizes
import Derived.Test.YtjeamafigaipcaaMark
namespace Go.Proofs.Ytjeamafigaipcaa
open Go.RowKit Go.Deep
set_option maxRecDepth 100000 in
set_option maxHeartbeats 1000000 in
theorem locationSizes_walk (a0 : Option Addr) (len0 cap0 : Nat) (z0 : List Int) (w : World) (p0 : IsRow .i64 w a0 len0 cap0 z0) :
    Calls Try.prog 12 #[.slice a0 len0 cap0] w fun e w' => e = .returned (.bool true) ∧ Below w.heap.size w w' := by
  obtain ⟨r0, m0⟩ := rdI_of_row p0
  clear p0
  unfold maxLen at m0
  generalize z0.take len0 = l0 at r0
  by_cases h0 : len0 ≤ 1048576
  · skip
    have hl0 := Lib.hid r0.1
    have hb0 : l0.length ≤ 1048576 := by rw [hl0.out]; exact h0
    have hR : (lsizes l0).length ≤ 1048576 := Nat.le_trans (lsizes_len l0) hb0
    go_enter Try.func12, Try.ntmps12
    go_wp2_with fail
    refine (toIntS_any _ _ _ _ _ _ r0 (by omega) h0).mono ?_
    rintro e w1 ⟨rfl, o0, b1⟩
    have s1 := b1.size
    have r0_1 := r0.belowB b1 (by omega)
    clear r0
    have t1 := below_chain (Below.refl w.heap.size w) b1 (by omega)
    clear b1
    go_wp2_with fail
    refine (spec_LocationSizes_any _ _ _ _ _ ((o0.rd hl0.out).more (by omega)) h0).mono ?_
    rintro e w2 ⟨Aw, cw, rfl, g1, b2⟩
    have s2 := b2.size
    have r0_2 := r0_1.belowB b2 (by omega)
    clear r0_1
    have o0_2 := o0.below b2 (by omega)
    clear o0
    have t2 := below_chain (t1) b2 (by omega)
    clear b2 t1
    clear o0_2
    go_wp2_with fail
    refine (toIntS_any _ _ _ _ _ _ r0_2 (by omega) h0).mono ?_
    rintro e w3 ⟨rfl, x0, b3⟩
    have s3 := b3.size
    have r0_3 := r0_2.belowB b3 (by omega)
    clear r0_2
    have g1_3 := g1.below b3 (by omega)
    clear g1
    have t3 := below_chain (t2) b3 (by omega)
    clear b3 t2
    go_wp2_with fail
    refine (impl_LocationSizes_any _ _ _ _ _ ((x0.rd hl0.out).more (by omega)) h0).mono ?_
    rintro e w4 ⟨Ag, cg, rfl, g2, b4⟩
    have s4 := b4.size
    have r0_4 := r0_3.belowB b4 (by omega)
    clear r0_3
    have g1_4 := g1_3.below b4 (by omega)
    clear g1_3
    have x0_4 := x0.below b4 (by omega)
    clear x0
    have t4 := below_chain (t3) b4 (by omega)
    clear b4 t3
    go_wp2_with fail
    refine (eqIntS_same _ _ _ _ _ _ _ _ _ _ (g2.rd rfl) (g1_4.rd rfl) (by omega) (by omega) hR).mono ?_
    rintro e w5 ⟨rfl, b5⟩
    have s5 := b5.size
    have r0_5 := r0_4.belowB b5 (by omega)
    clear r0_4
    have g1_5 := g1_4.below b5 (by omega)
    clear g1_4
    have x0_5 := x0_4.below b5 (by omega)
    clear x0_4
    have g2_5 := g2.below b5 (by omega)
    clear g2
    have t5 := below_chain (t4) b5 (by omega)
    clear b5 t4
    go_wp2_with fail
    refine (toIntS_any _ _ _ _ _ _ r0_5 (by omega) h0).mono ?_
    rintro e w6 ⟨rfl, y0, b6⟩
    have s6 := b6.size
    have r0_6 := r0_5.belowB b6 (by omega)
    clear r0_5
    have g1_6 := g1_5.below b6 (by omega)
    clear g1_5
    have x0_6 := x0_5.below b6 (by omega)
    clear x0_5
    have g2_6 := g2_5.below b6 (by omega)
    clear g2_5
    have t6 := below_chain (t5) b6 (by omega)
    clear b6 t5
    go_wp2_with fail
    refine (eqIntS_same _ _ _ _ _ _ _ _ _ _ (x0_6.rd hl0.out) (y0.rd hl0.out) (by omega) (by omega) hb0).mono ?_
    rintro e w7 ⟨rfl, b7⟩
    have s7 := b7.size
    have r0_7 := r0_6.belowB b7 (by omega)
    clear r0_6
    have g1_7 := g1_6.below b7 (by omega)
    clear g1_6
    have x0_7 := x0_6.below b7 (by omega)
    clear x0_6
    have g2_7 := g2_6.below b7 (by omega)
    clear g2_6
    have y0_7 := y0.below b7 (by omega)
    clear y0
    have t7 := below_chain (t6) b7 (by omega)
    clear b7 t6
    clear y0_7
    go_wp2_with fail
    refine (markIntS_any _ _ _ _ _ _ _ _ x0_7 hl0.out (by omega) (by omega) (by omega)).mono ?_
    rintro e w8 ⟨rfl, x0m, b8⟩
    have s8 := b8.size
    have r0_8 := r0_7.chg b8 (by omega) (by omega)
    clear r0_7
    have g1_8 := g1_7.chg b8 (by omega)
    clear g1_7
    have g2_8 := g2_7.chg b8 (by omega)
    clear g2_7
    have t8 := (t7).trans (b8.below (by omega) (by omega))
    clear b8 t7
    clear x0m
    go_wp2_with fail
    refine (eqIntS_same _ _ _ _ _ _ _ _ _ _ (g2_8.rd rfl) (g1_8.rd rfl) (by omega) (by omega) hR).mono ?_
    rintro e w9 ⟨rfl, b9⟩
    have s9 := b9.size
    have r0_9 := r0_8.belowB b9 (by omega)
    clear r0_8
    have g1_9 := g1_8.below b9 (by omega)
    clear g1_8
    have g2_9 := g2_8.below b9 (by omega)
    clear g2_8
    have t9 := below_chain (t8) b9 (by omega)
    clear b9 t8
    go_wp2_with fail
    refine (markIntS_any _ _ _ _ _ _ _ _ g2_9 rfl (by omega) (by omega) (by omega)).mono ?_
    rintro e w10 ⟨rfl, gm, b10⟩
    have s10 := b10.size
    have r0_10 := r0_9.chg b10 (by omega) (by omega)
    clear r0_9
    have g1_10 := g1_9.chg b10 (by omega)
    clear g1_9
    have t10 := (t9).trans (b10.below (by omega) (by omega))
    clear b10 t9
    go_wp2_with fail
    refine (heldIntS_any _ _ _ _ _ _ (gm.rd (cnt_length _ _)) (by omega) (by omega) (by omega)).mono ?_
    rintro e w' ⟨rfl, rfl⟩
    go_wp2_with fail
    refine (toIntS_any _ _ _ _ _ _ r0_10 (by omega) h0).mono ?_
    rintro e w11 ⟨rfl, z0, b11⟩
    have s11 := b11.size
    have r0_11 := r0_10.belowB b11 (by omega)
    clear r0_10
    have g1_11 := g1_10.below b11 (by omega)
    clear g1_10
    have g2_11 := gm.below b11 (by omega)
    clear gm
    have t11 := below_chain (t10) b11 (by omega)
    clear b11 t10
    go_wp2_with fail
    refine (impl_LocationSizes_any _ _ _ _ _ ((z0.rd hl0.out).more (by omega)) h0).mono ?_
    rintro e w12 ⟨Ah, ch, rfl, g3, b12⟩
    have s12 := b12.size
    have r0_12 := r0_11.belowB b12 (by omega)
    clear r0_11
    have g1_12 := g1_11.below b12 (by omega)
    clear g1_11
    have g2_12 := g2_11.below b12 (by omega)
    clear g2_11
    have z0_12 := z0.below b12 (by omega)
    clear z0
    have t12 := below_chain (t11) b12 (by omega)
    clear b12 t11
    clear z0_12
    go_wp2_with fail
    refine (eqIntS_same _ _ _ _ _ _ _ _ _ _ (g3.rd rfl) (g1_12.rd rfl) (by omega) (by omega) hR).mono ?_
    rintro e w13 ⟨rfl, b13⟩
    have s13 := b13.size
    have r0_13 := r0_12.belowB b13 (by omega)
    clear r0_12
    have g1_13 := g1_12.below b13 (by omega)
    clear g1_12
    have g2_13 := g2_12.below b13 (by omega)
    clear g2_12
    have g3_13 := g3.below b13 (by omega)
    clear g3
    have t13 := below_chain (t12) b13 (by omega)
    clear b13 t12
    clear g3_13
    clear g1_13
    go_wp2_with fail
    refine (heldIntS_any _ _ _ _ _ _ (g2_13.rd (cnt_length _ _)) (by omega) (by omega) (by omega)).mono ?_
    rintro e w' ⟨rfl, rfl⟩
    go_wp2_with fail
    go_ret
    exact ⟨rfl, t13⟩
  · go_enter Try.func12, Try.ntmps12
    go_wp2_with fail
    go_ret
    exact ⟨rfl, Below.refl _ _⟩
end Go.Proofs.Ytjeamafigaipcaa
