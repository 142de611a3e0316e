/- The walks of the laws on FormatLocation. No condition. -/
import Derived.Test.YtjeamafigaipcaaLocFmt
namespace Go.Proofs.Ytjeamafigaipcaa
open Go.RowKit Go.Deep
set_option maxRecDepth 100000 in
set_option maxHeartbeats 1000000 in
theorem formatLocation_walk (a0 : Option Addr) (len0 cap0 : Nat) (z0 : List Int) (w : World) (p0 : IsRow .i64 w a0 len0 cap0 z0) :
    Calls Try.prog 11 #[.slice a0 len0 cap0] w fun e w' => e = .returned (.bool true) ∧ Below w.heap.size w w' := by
  obtain ⟨r0, m0⟩ := rdI_of_row p0
  clear p0
  unfold maxLen at m0
  generalize z0.take len0 = l0 at r0
  by_cases h0 : len0 ≤ 1048576
  · skip
    have hl0 := Lib.hid r0.1
    have hb0 : l0.length ≤ 1048576 := by rw [hl0.out]; exact h0
    go_enter Try.func11, Try.ntmps11
    go_wp2_with fail
    refine (toIntS_any _ _ _ _ _ _ r0 (by omega) h0).mono ?_
    rintro e w1 ⟨rfl, o1, b1⟩
    have s1 := b1.size
    have r0_1 := r0.belowB b1 (by omega)
    clear r0
    have t1 := below_chain (Below.refl w.heap.size w) b1 (by omega)
    clear b1
    go_wp2_with fail
    refine (spec_FormatLocation_any _ _ _ _ _ ((o1.rd hl0.out).more (by omega)) h0).mono ?_
    rintro e w2 ⟨rfl, b2⟩
    have s2 := b2.size
    have r0_2 := r0_1.belowB b2 (by omega)
    clear r0_1
    have o1_2 := o1.below b2 (by omega)
    clear o1
    have t2 := below_chain (t1) b2 (by omega)
    clear b2 t1
    clear o1_2
    go_wp2_with fail
    refine (toIntS_any _ _ _ _ _ _ r0_2 (by omega) h0).mono ?_
    rintro e w3 ⟨rfl, x0, b3⟩
    have s3 := b3.size
    have r0_3 := r0_2.belowB b3 (by omega)
    clear r0_2
    have t3 := below_chain (t2) b3 (by omega)
    clear b3 t2
    go_wp2_with fail
    refine (impl_FormatLocation_any _ _ _ _ _ ((x0.rd hl0.out).more (by omega)) h0).mono ?_
    rintro e w4 ⟨rfl, b4⟩
    have s4 := b4.size
    have r0_4 := r0_3.belowB b4 (by omega)
    clear r0_3
    have x0_4 := x0.below b4 (by omega)
    clear x0
    have t4 := below_chain (t3) b4 (by omega)
    clear b4 t3
    go_wp2_with fail
    refine (toIntS_any _ _ _ _ _ _ r0_4 (by omega) h0).mono ?_
    rintro e w5 ⟨rfl, o2, b5⟩
    have s5 := b5.size
    have r0_5 := r0_4.belowB b5 (by omega)
    clear r0_4
    have x0_5 := x0_4.below b5 (by omega)
    clear x0_4
    have t5 := below_chain (t4) b5 (by omega)
    clear b5 t4
    go_wp2_with fail
    refine (eqIntS_same _ _ _ _ _ _ _ _ _ _ (x0_5.rd hl0.out) (o2.rd hl0.out) (by omega) (by omega) hb0).mono ?_
    rintro e w6 ⟨rfl, b6⟩
    have s6 := b6.size
    have r0_6 := r0_5.belowB b6 (by omega)
    clear r0_5
    have x0_6 := x0_5.below b6 (by omega)
    clear x0_5
    have o2_6 := o2.below b6 (by omega)
    clear o2
    have t6 := below_chain (t5) b6 (by omega)
    clear b6 t5
    go_wp2_with fail
    go_ret
    exact ⟨rfl, t6⟩
  · go_enter Try.func11, Try.ntmps11
    go_wp2_with fail
    go_ret
    exact ⟨rfl, Below.refl _ _⟩
end Go.Proofs.Ytjeamafigaipcaa
