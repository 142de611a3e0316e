/- The walks of the laws on ParseLocation. No condition. -/
import Derived.Test.YtjeamafigaipcaaLocParse
import Derived.Test.YtjeamafigaipcaaMark
namespace Go.Proofs.Ytjeamafigaipcaa
open Go.RowKit Go.Deep
set_option maxRecDepth 100000 in
set_option maxHeartbeats 1000000 in
theorem parseLocation_walk (a0 : ByteArray) (w : World) (p0 : a0.size ≤ maxLen) :
    Calls Try.prog 9 #[.string a0] w fun e w' => e = .returned (.bool true) ∧ Below w.heap.size w w' := by
  unfold maxLen at p0
  by_cases h0 : a0.size ≤ 1048576
  · skip
    have hR : (plocR a0.data.toList).1.length ≤ 1048576 := by have := plocR_len a0.data.toList; omega
    go_enter Try.func9, Try.ntmps9
    go_wp2_with fail
    refine (spec_ParseLocation_any _ _ h0).mono ?_
    rintro e w1 ⟨Aw, cw, rfl, g1, b1⟩
    have s1 := b1.size
    have t1 := below_chain (Below.refl w.heap.size w) b1 (by omega)
    clear b1
    go_wp2_with fail
    refine (impl_ParseLocation_any _ _ h0).mono ?_
    rintro e w2 ⟨Ag, cg, rfl, g2, b2⟩
    have s2 := b2.size
    have g1_2 := g1.below b2 (by omega)
    clear g1
    have t2 := below_chain (t1) b2 (by omega)
    clear b2 t1
    go_wp2_with fail
    refine (eqIntS_same _ _ _ _ _ _ _ _ _ _ (g2.rd rfl) (g1_2.rd rfl) (by omega) (by omega) hR).mono ?_
    rintro e w3 ⟨rfl, b3⟩
    have s3 := b3.size
    have g1_3 := g1_2.below b3 (by omega)
    clear g1_2
    have g2_3 := g2.below b3 (by omega)
    clear g2
    have t3 := below_chain (t2) b3 (by omega)
    clear b3 t2
    go_wp2_with fail
    refine (markIntS_any _ _ _ _ _ _ _ _ g2_3 rfl (by omega) (by omega) (by omega)).mono ?_
    rintro e w4 ⟨rfl, gm, b4⟩
    have s4 := b4.size
    have g1_4 := g1_3.chg b4 (by omega)
    clear g1_3
    have t4 := (t3).trans (b4.below (by omega) (by omega))
    clear b4 t3
    go_wp2_with fail
    refine (heldIntS_any _ _ _ _ _ _ (gm.rd (cnt_length _ _)) (by omega) (by omega) (by omega)).mono ?_
    rintro e w' ⟨rfl, rfl⟩
    go_wp2_with fail
    refine (impl_ParseLocation_any _ _ h0).mono ?_
    rintro e w5 ⟨Ah, ch, rfl, g3, b5⟩
    have s5 := b5.size
    have g1_5 := g1_4.below b5 (by omega)
    clear g1_4
    have g2_5 := gm.below b5 (by omega)
    clear gm
    have t5 := below_chain (t4) b5 (by omega)
    clear b5 t4
    go_wp2_with fail
    refine (eqIntS_same _ _ _ _ _ _ _ _ _ _ (g3.rd rfl) (g1_5.rd rfl) (by omega) (by omega) hR).mono ?_
    rintro e w6 ⟨rfl, b6⟩
    have s6 := b6.size
    have g1_6 := g1_5.below b6 (by omega)
    clear g1_5
    have g2_6 := g2_5.below b6 (by omega)
    clear g2_5
    have g3_6 := g3.below b6 (by omega)
    clear g3
    have t6 := below_chain (t5) b6 (by omega)
    clear b6 t5
    clear g3_6
    clear g1_6
    go_wp2_with fail
    refine (heldIntS_any _ _ _ _ _ _ (g2_6.rd (cnt_length _ _)) (by omega) (by omega) (by omega)).mono ?_
    rintro e w' ⟨rfl, rfl⟩
    go_wp2_with fail
    go_ret
    exact ⟨rfl, t6⟩
  · go_enter Try.func9, Try.ntmps9
    go_wp2_with fail
    go_ret
    exact ⟨rfl, Below.refl _ _⟩
end Go.Proofs.Ytjeamafigaipcaa
