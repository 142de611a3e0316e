/- The walk of the law on ParseDatabase. No condition. -/
import Derived.Test.YtmojjbhjjhdpaaaDoorPd
import Derived.Test.YtmojjbhjjhdpaaaDoorDbHeld
import Derived.Test.YtmojjbhjjhdpaaaDoorKn
import Derived.Deep.RegionHeld3
import Derived.Deep.DeepCutAuto
namespace Go.Proofs.YtmojjbhjjhdpaaaDoor
open Go.RowKit Go.Deep
set_option maxRecDepth 100000 in
set_option maxHeartbeats 4000000 in
theorem parseDatabase_walk (a0 : ByteArray) (w : World) (ht : Tb w) (hm : Mx w) (p0 : a0.size ≤ maxLen) :
    Calls Tryd.prog 10 #[.string a0] w fun e w' => e = .returned (.bool true) ∧ Below w.heap.size w w' := by
  have kn0 : Kn w [] w := Kn.start w
  have pp0 := p0
  unfold maxLen at pp0
  by_cases h0 : a0.size ≤ 1048576
  rotate_left
  · go_enter Tryd.func10, Tryd.ntmps10
    go_wp2_with fail
    go_ret
    exact ⟨rfl, kn0.bel⟩
  go_enter Tryd.func10, Tryd.ntmps10
  obtain ⟨rq, okq, hRq⟩ : ∃ a b, parD a0 = (a, b) := ⟨_, _, rfl⟩
  have hbq : rq.length ≤ 1048576 ∧ sumT rq ≤ 1048576 := by have := parD_small a0; rw [hRq] at this; exact this
  obtain ⟨hbq, hsq⟩ := hbq
  have hrsq : Hid (∀ t ∈ rq, t.rs.length ≤ 1048576) := fun t ht => (sumT_small hsq t ht).1
  have hmq : mrkT rq ≤ 4194304 := by have := mrkT_le rq; omega
  have KS : Hid (∀  W, Calls Tryd.prog 37 #[.string a0] W (DbAns rq okq W)) := fun  W  => by have := spec_ParseDatabase_any a0 W (by omega); rw [hRq] at this; exact this
  have KI : Hid (∀  W, Below w.heap.size w W → Calls Tryd.prog 38 #[.string a0] W (DbAns rq okq W)) := fun  W b  => by have := impl_ParseDatabase_any a0 W (by omega) (ht.on b) (hm.on b); rw [hRq] at this; exact this
  clear hRq
  go_wp2_with fail
  with_reducible refine (KS.out  _ ).mono ?_
  rintro e w1 ⟨Aw, cw, rfl, ow, b1⟩
  have s1 := b1.size
  have kn1 := kn0.next b1
  clear kn0 b1
  go_wp2_with fail
  have kn2 : Kn w [(w1.heap.size, 0, .slice Aw rq.length cw)] (w1.alloc (.cells #[.slice Aw rq.length cw] 55)) := kn1.box1 (.slice Aw rq.length cw) 55
  have s2 : w1.heap.size + 1 ≤ (w1.alloc (.cells #[.slice Aw rq.length cw] 55)).heap.size := by simp
  have ow_2 := ow.below ((Below.refl _ _).alloc (Nat.le_refl _) (.cells #[.slice Aw rq.length cw] 55)) (by omega)
  clear ow
  clear kn1
  generalize w1.alloc (.cells #[.slice Aw rq.length cw] 55) = w2 at kn2 s2 ow_2 ⊢
  obtain ⟨d0, _⟩ := kn2.all
  go_wp2_with fail
  with_reducible refine (KI.out  _ kn2.bel ).mono ?_
  rintro e w3 ⟨Ag, cg, rfl, og, b3⟩
  have s3 := b3.size
  have ow_3 := ow_2.below b3 (by omega)
  clear ow_2
  have kn3 := kn2.next b3
  clear kn2 b3
  clear d0
  obtain ⟨d0, _⟩ := kn3.all
  have ne0 : w1.heap.size < w3.heap.size := by omega
  go_wp2_with fail
  clear ne0
  have kn4 : Kn w [(w1.heap.size, 0, .slice Aw rq.length cw), (w3.heap.size, 0, .slice Ag rq.length cg)] (w3.alloc (.cells #[.slice Ag rq.length cg] 55)) := kn3.box1 (.slice Ag rq.length cg) 55
  have s4 : w3.heap.size + 1 ≤ (w3.alloc (.cells #[.slice Ag rq.length cg] 55)).heap.size := by simp
  have ow_4 := ow_3.below ((Below.refl _ _).alloc (Nat.le_refl _) (.cells #[.slice Ag rq.length cg] 55)) (by omega)
  clear ow_3
  have og_4 := og.below ((Below.refl _ _).alloc (Nat.le_refl _) (.cells #[.slice Ag rq.length cg] 55)) (by omega)
  clear og
  clear kn3
  clear d0
  generalize w3.alloc (.cells #[.slice Ag rq.length cg] 55) = w4 at kn4 s4 ow_4 og_4 ⊢
  obtain ⟨d0, d1, _⟩ := kn4.all
  have qk : (okq != okq) = false := by simp
  go_wp2_with fail
  with_reducible refine (eqDatabase_same _ _ _ _ _ _ _ _ _ _ (og_4.rd rfl) (ow_4.rd rfl) (by omega) (by omega) hbq).mono ?_
  rintro e w5 ⟨rfl, b5⟩
  have s5 := b5.size
  have ow_5 := ow_4.below b5 (by omega)
  clear ow_4
  have og_5 := og_4.below b5 (by omega)
  clear og_4
  have kn5 := kn4.next b5
  clear kn4 b5
  clear d0 d1
  obtain ⟨d0, d1, _⟩ := kn5.all
  go_wp2_with fail
  with_reducible refine (markDatabase_any _ _ _ _ _ _ _ _ og_5 hbq hrsq.out (by omega) (by omega)).mono ?_
  rintro e w6 ⟨rfl, ogm, b6⟩
  have s6 := b6.size
  have ow_6 := ow_5.chg b6 (by omega)
  clear ow_5
  have kn6 := kn5.chg b6 (by omega) (by simp only [List.forall_mem_cons]; simp; try omega)
  clear kn5 b6
  clear d0 d1
  obtain ⟨d0, d1, _⟩ := kn6.all
  have qn : ¬ (1 + ((mrkT rq : Nat) : Int) < 0) := by omega
  have qm : (1 + ((mrkT rq : Nat) : Int) != 1 + ((mrkT rq : Nat) : Int)) = false := by simp
  go_wp2_with fail
  with_reducible refine (heldDatabase_any _ _ _ _ _ _ _ (ogm.rd (cntT_length _ _)) (by omega) hbq hrsq.out (by omega) (by omega)).mono ?_
  rintro e w7 ⟨rfl, b7⟩
  have s7 := b7.size
  have ow_7 := ow_6.below b7 (by omega)
  clear ow_6
  have og_7 := ogm.below b7 (by omega)
  clear ogm
  have kn7 := kn6.next b7
  clear kn6 b7
  clear d0 d1
  obtain ⟨d0, d1, _⟩ := kn7.all
  go_wp2_with fail
  with_reducible refine (KI.out  _ kn7.bel ).mono ?_
  rintro e w8 ⟨Ah, ch, rfl, oh, b8⟩
  have s8 := b8.size
  have ow_8 := ow_7.below b8 (by omega)
  clear ow_7
  have og_8 := og_7.below b8 (by omega)
  clear og_7
  have kn8 := kn7.next b8
  clear kn7 b8
  clear d0 d1
  obtain ⟨d0, d1, _⟩ := kn8.all
  have ne0 : w1.heap.size < w8.heap.size := by omega
  have ne1 : w3.heap.size < w8.heap.size := by omega
  go_wp2_with fail
  clear ne0 ne1
  have kn9 : Kn w [(w1.heap.size, 0, .slice Aw rq.length cw), (w3.heap.size, 0, .slice Ag rq.length cg), (w8.heap.size, 0, .slice Ah rq.length ch)] (w8.alloc (.cells #[.slice Ah rq.length ch] 55)) := kn8.box1 (.slice Ah rq.length ch) 55
  have s9 : w8.heap.size + 1 ≤ (w8.alloc (.cells #[.slice Ah rq.length ch] 55)).heap.size := by simp
  have ow_9 := ow_8.below ((Below.refl _ _).alloc (Nat.le_refl _) (.cells #[.slice Ah rq.length ch] 55)) (by omega)
  clear ow_8
  have og_9 := og_8.below ((Below.refl _ _).alloc (Nat.le_refl _) (.cells #[.slice Ah rq.length ch] 55)) (by omega)
  clear og_8
  have oh_9 := oh.below ((Below.refl _ _).alloc (Nat.le_refl _) (.cells #[.slice Ah rq.length ch] 55)) (by omega)
  clear oh
  clear kn8
  clear d0 d1
  generalize w8.alloc (.cells #[.slice Ah rq.length ch] 55) = w9 at kn9 s9 ow_9 og_9 oh_9 ⊢
  obtain ⟨d0, d1, d2, _⟩ := kn9.all
  go_wp2_with fail
  with_reducible refine (eqDatabase_same _ _ _ _ _ _ _ _ _ _ (oh_9.rd rfl) (ow_9.rd rfl) (by omega) (by omega) hbq).mono ?_
  rintro e w10 ⟨rfl, b10⟩
  have s10 := b10.size
  have ow_10 := ow_9.below b10 (by omega)
  clear ow_9
  have og_10 := og_9.below b10 (by omega)
  clear og_9
  have oh_10 := oh_9.below b10 (by omega)
  clear oh_9
  have kn10 := kn9.next b10
  clear kn9 b10
  clear d0 d1 d2
  obtain ⟨d0, d1, d2, _⟩ := kn10.all
  clear oh_10
  clear ow_10
  go_wp2_with fail
  with_reducible refine (heldDatabase_any _ _ _ _ _ _ _ (og_10.rd (cntT_length _ _)) (by omega) hbq hrsq.out (by omega) (by omega)).mono ?_
  rintro e w11 ⟨rfl, b11⟩
  have s11 := b11.size
  have og_11 := og_10.below b11 (by omega)
  clear og_10
  have kn11 := kn10.next b11
  clear kn10 b11
  clear d0 d1 d2
  obtain ⟨d0, d1, d2, _⟩ := kn11.all
  go_wp2_with fail
  go_ret
  exact ⟨rfl, kn11.bel⟩
end Go.Proofs.YtmojjbhjjhdpaaaDoor
