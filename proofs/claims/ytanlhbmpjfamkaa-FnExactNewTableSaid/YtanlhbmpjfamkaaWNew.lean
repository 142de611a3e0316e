/- The walk of the law on NewTable. No condition. -/
import Derived.Test.YtanlhbmpjfamkaaNewT
import Derived.Deep.RegionHeld3
import Derived.Deep.DeepCutAuto
namespace Go.Proofs.Ytanlhbmpjfamkaa
open Go.RowKit Go.Deep
set_option maxRecDepth 100000 in
set_option maxHeartbeats 4000000 in
theorem newTable_walk (a0 : ByteArray) (a1 : Int) (a2 : Option Addr) (len2 cap2 : Nat) (z2 : List (List Int)) (w : World) (p0 : a0.size ≤ maxLen) (_p1 : (Lit.int .i64 a1).wf = true) (ll2 : len2 ≤ maxLen) (r2 : RdR w w.heap.size a2 len2 z2) :
    Calls Try.prog 7 #[.string a0, .int .i64 a1, .slice a2 len2 cap2] w fun e w' => e = .returned (.bool true) ∧ Below w.heap.size w w' := by
  have kn0 : Kn w [] w := Kn.start w
  have pp0 := p0
  unfold maxLen at pp0
  unfold maxLen at ll2
  by_cases h0 : a0.size ≤ 1048576
  rotate_left
  · go_enter Try.func7, Try.ntmps7
    go_wp2_with fail
    go_ret
    exact ⟨rfl, kn0.bel⟩
  go_enter Try.func7, Try.ntmps7
  go_wp2_with fail
  with_reducible refine (szRows_any a2 len2 cap2 w.heap.size _ z2 w (r2.belowB kn0.bel (Nat.le_refl _)) kn0.bel.size (by omega) (by omega) (by omega)).mono ?_
  rintro e w1 ⟨sa, rfl, hsa, b1⟩
  have s1 := b1.size
  have kn1 := kn0.next b1
  clear kn0 b1
  rcases hsa with rfl | ⟨hsa, hza⟩
  · go_wp2_with fail
    go_ret
    exact ⟨rfl, kn1.bel⟩
  have qsa : ¬ sa < 0 := by omega
  have qta : sa ≤ 1048576 := by omega
  have HZa := Lib.hid hza
  clear hza
  have hza := HZa.out
  have h2 : len2 ≤ 1048576 := by omega
  have hrow2 : Hid (∀ r ∈ z2, r.length ≤ 1048576) := fun r hr => by have := sumL_mem hr; omega
  have hsum2 : sumL z2 ≤ 1048576 := by omega
  clear hza HZa
  have hl2 := Lib.hid r2.1
  have hb2 : z2.length ≤ 1048576 := by rw [hl2.out]; exact h2
  obtain ⟨nmq, arq, rq, okq, hRq⟩ : ∃ a b c d, newR a0 a1 z2 = ⟨a, b, c, d⟩ := ⟨_, _, _, _, rfl⟩
  have hbq : rq.length ≤ 1048576 ∧ sumL rq ≤ 4294967296 := by have := newR_small a0 a1 z2 hb2 hsum2; rw [hRq] at this; exact this
  obtain ⟨hbq, hsq⟩ := hbq
  have KS : Hid (∀ A2 c2 W, RdR W W.heap.size A2 len2 z2 → Calls Try.prog 26 #[.string a0, .int .i64 a1, .slice A2 len2 c2] W (TabAns nmq arq rq okq W)) := fun A2 c2 W h2 => by have := spec_NewTable_any a0 a1 A2 len2 c2 _ z2 W h2 (Nat.le_refl _) (by omega) (fun r hr => Nat.le_trans (hrow2.out r hr) (by omega)); rw [hRq] at this; exact this
  have KI : Hid (∀ A2 c2 W, RdR W W.heap.size A2 len2 z2 → Calls Try.prog 28 #[.string a0, .int .i64 a1, .slice A2 len2 c2] W (TabAns nmq arq rq okq W)) := fun A2 c2 W h2 => by have := impl_NewTable_any a0 a1 A2 len2 c2 _ z2 W h2 (Nat.le_refl _) (by omega) (fun r hr => Nat.le_trans (hrow2.out r hr) (by omega)); rw [hRq] at this; exact this
  clear hRq
  go_wp2_with fail
  with_reducible refine (toIntSS_any a2 len2 cap2 w.heap.size z2 w1 (r2.belowB kn1.bel (Nat.le_refl _)) kn1.bel.size h2 hrow2.out).mono ?_
  rintro e w2 ⟨rfl, o2, b2⟩
  have s2 := b2.size
  have kn2 := kn1.next b2
  clear kn1 b2
  go_wp2_with fail
  with_reducible refine (KS.out _ _ _ (((o2.rd hl2.out).more (by omega)))).mono ?_
  rintro e w3 ⟨Aw, cw, rfl, ow, b3⟩
  have s3 := b3.size
  have o2_3 := o2.below b3 (by omega)
  clear o2
  have kn3 := kn2.next b3
  clear kn2 b3
  clear o2_3
  go_wp2_with fail
  have kn4 : Kn w [(w3.heap.size, 0, .string nmq), (w3.heap.size, 1, .int .i64 arq), (w3.heap.size, 2, .slice Aw rq.length cw)] (w3.alloc (.cells #[.string nmq, .int .i64 arq, .slice Aw rq.length cw] 27)) := kn3.box3 (.string nmq) (.int .i64 arq) (.slice Aw rq.length cw) 27
  have s4 : w3.heap.size + 1 ≤ (w3.alloc (.cells #[.string nmq, .int .i64 arq, .slice Aw rq.length cw] 27)).heap.size := by simp
  have ow_4 := ow.below ((Below.refl _ _).alloc (Nat.le_refl _) (.cells #[.string nmq, .int .i64 arq, .slice Aw rq.length cw] 27)) (by omega)
  clear ow
  clear kn3
  generalize w3.alloc (.cells #[.string nmq, .int .i64 arq, .slice Aw rq.length cw] 27) = w4 at kn4 s4 ow_4 ⊢
  obtain ⟨d0, d1, d2, _⟩ := kn4.all
  go_wp2_with fail
  with_reducible refine (toIntSS_any a2 len2 cap2 w.heap.size z2 w4 (r2.belowB kn4.bel (Nat.le_refl _)) kn4.bel.size h2 hrow2.out).mono ?_
  rintro e w5 ⟨rfl, x2, b5⟩
  have s5 := b5.size
  have ow_5 := ow_4.below b5 (by omega)
  clear ow_4
  have kn5 := kn4.next b5
  clear kn4 b5
  clear d0 d1 d2
  obtain ⟨d0, d1, d2, _⟩ := kn5.all
  go_wp2_with fail
  with_reducible refine (KI.out _ _ _ (((x2.rd hl2.out).more (by omega)))).mono ?_
  rintro e w6 ⟨Ag, cg, rfl, og, b6⟩
  have s6 := b6.size
  have ow_6 := ow_5.below b6 (by omega)
  clear ow_5
  have x2_6 := x2.below b6 (by omega)
  clear x2
  have kn6 := kn5.next b6
  clear kn5 b6
  clear d0 d1 d2
  obtain ⟨d0, d1, d2, _⟩ := kn6.all
  have ne0 : w3.heap.size < w6.heap.size := by omega
  go_wp2_with fail
  clear ne0
  have kn7 : Kn w [(w3.heap.size, 0, .string nmq), (w3.heap.size, 1, .int .i64 arq), (w3.heap.size, 2, .slice Aw rq.length cw), (w6.heap.size, 0, .string nmq), (w6.heap.size, 1, .int .i64 arq), (w6.heap.size, 2, .slice Ag rq.length cg)] (w6.alloc (.cells #[.string nmq, .int .i64 arq, .slice Ag rq.length cg] 27)) := kn6.box3 (.string nmq) (.int .i64 arq) (.slice Ag rq.length cg) 27
  have s7 : w6.heap.size + 1 ≤ (w6.alloc (.cells #[.string nmq, .int .i64 arq, .slice Ag rq.length cg] 27)).heap.size := by simp
  have ow_7 := ow_6.below ((Below.refl _ _).alloc (Nat.le_refl _) (.cells #[.string nmq, .int .i64 arq, .slice Ag rq.length cg] 27)) (by omega)
  clear ow_6
  have x2_7 := x2_6.below ((Below.refl _ _).alloc (Nat.le_refl _) (.cells #[.string nmq, .int .i64 arq, .slice Ag rq.length cg] 27)) (by omega)
  clear x2_6
  have og_7 := og.below ((Below.refl _ _).alloc (Nat.le_refl _) (.cells #[.string nmq, .int .i64 arq, .slice Ag rq.length cg] 27)) (by omega)
  clear og
  clear kn6
  clear d0 d1 d2
  generalize w6.alloc (.cells #[.string nmq, .int .i64 arq, .slice Ag rq.length cg] 27) = w7 at kn7 s7 ow_7 x2_7 og_7 ⊢
  obtain ⟨d0, d1, d2, d3, d4, d5, _⟩ := kn7.all
  have qk : (okq != okq) = false := by simp
  go_wp2_with fail
  with_reducible refine (eqTable_same _ _ _ _ _ _ _ _ _ _ _ _ (og_7.rd rfl) (ow_7.rd rfl) (by omega) (by omega) hbq).mono ?_
  rintro e w8 ⟨rfl, b8⟩
  have s8 := b8.size
  have ow_8 := ow_7.below b8 (by omega)
  clear ow_7
  have x2_8 := x2_7.below b8 (by omega)
  clear x2_7
  have og_8 := og_7.below b8 (by omega)
  clear og_7
  have kn8 := kn7.next b8
  clear kn7 b8
  clear d0 d1 d2 d3 d4 d5
  obtain ⟨d0, d1, d2, d3, d4, d5, _⟩ := kn8.all
  go_wp2_with fail
  with_reducible refine (toIntSS_any a2 len2 cap2 w.heap.size z2 w8 (r2.belowB kn8.bel (Nat.le_refl _)) kn8.bel.size h2 hrow2.out).mono ?_
  rintro e w9 ⟨rfl, y2, b9⟩
  have s9 := b9.size
  have ow_9 := ow_8.below b9 (by omega)
  clear ow_8
  have x2_9 := x2_8.below b9 (by omega)
  clear x2_8
  have og_9 := og_8.below b9 (by omega)
  clear og_8
  have kn9 := kn8.next b9
  clear kn8 b9
  clear d0 d1 d2 d3 d4 d5
  obtain ⟨d0, d1, d2, d3, d4, d5, _⟩ := kn9.all
  go_wp2_with fail
  with_reducible refine (eqRows_same _ _ _ _ _ _ _ _ _ _ (x2_9.rd hl2.out) (y2.rd hl2.out) (by omega) (by omega) hb2).mono ?_
  rintro e w10 ⟨rfl, b10⟩
  have s10 := b10.size
  have ow_10 := ow_9.below b10 (by omega)
  clear ow_9
  have x2_10 := x2_9.below b10 (by omega)
  clear x2_9
  have og_10 := og_9.below b10 (by omega)
  clear og_9
  have y2_10 := y2.below b10 (by omega)
  clear y2
  have kn10 := kn9.next b10
  clear kn9 b10
  clear d0 d1 d2 d3 d4 d5
  obtain ⟨d0, d1, d2, d3, d4, d5, _⟩ := kn10.all
  clear y2_10
  go_wp2_with fail
  with_reducible refine (markIntSS_any _ _ _ _ _ _ _ _ x2_10 (by omega) (by omega) (by omega)).mono ?_
  rintro e w11 ⟨rfl, x2m, b11⟩
  have s11 := b11.size
  have ow_11 := ow_10.chg b11 (by omega)
  clear ow_10
  have og_11 := og_10.chg b11 (by omega)
  clear og_10
  have kn11 := kn10.chg b11 (by omega) (by simp only [List.forall_mem_cons]; simp; try omega)
  clear kn10 b11
  clear d0 d1 d2 d3 d4 d5
  obtain ⟨d0, d1, d2, d3, d4, d5, _⟩ := kn11.all
  clear x2m
  have qn : ¬ (1 + ((sumL z2 : Nat) : Int) < 0) := by omega
  go_wp2_with fail
  with_reducible refine (eqTable_same _ _ _ _ _ _ _ _ _ _ _ _ (og_11.rd rfl) (ow_11.rd rfl) (by omega) (by omega) hbq).mono ?_
  rintro e w12 ⟨rfl, b12⟩
  have s12 := b12.size
  have ow_12 := ow_11.below b12 (by omega)
  clear ow_11
  have og_12 := og_11.below b12 (by omega)
  clear og_11
  have kn12 := kn11.next b12
  clear kn11 b12
  clear d0 d1 d2 d3 d4 d5
  obtain ⟨d0, d1, d2, d3, d4, d5, _⟩ := kn12.all
  clear qn
  go_wp2_with fail
  with_reducible refine (markTable_any _ _ _ _ _ _ _ _ _ _ og_12 (by omega) (by omega) (by omega)).mono ?_
  rintro e w13 ⟨rfl, ogm, b13⟩
  have s13 := b13.size
  have ow_13 := ow_12.chg b13 (by omega)
  clear ow_12
  have kn13 := kn12.chg b13 (by omega) (by simp only [List.forall_mem_cons]; simp; try omega)
  clear kn12 b13
  clear d0 d1 d2 d3 d4 d5
  obtain ⟨d0, d1, d2, d3, d4, d5, _⟩ := kn13.all
  have qn : ¬ (1 + ((sumL rq : Nat) : Int) < 0) := by omega
  have qm : (1 + ((sumL rq : Nat) : Int) != 1 + ((sumL rq : Nat) : Int)) = false := by simp
  go_wp2_with fail
  with_reducible refine (heldTable_any _ _ _ _ _ _ _ _ _ (ogm.rd (cntR_length _ _)) (by omega) (by omega) (by omega) (by omega)).mono ?_
  rintro e w14 ⟨rfl, b14⟩
  have s14 := b14.size
  have ow_14 := ow_13.below b14 (by omega)
  clear ow_13
  have og_14 := ogm.below b14 (by omega)
  clear ogm
  have kn14 := kn13.next b14
  clear kn13 b14
  clear d0 d1 d2 d3 d4 d5
  obtain ⟨d0, d1, d2, d3, d4, d5, _⟩ := kn14.all
  go_wp2_with fail
  with_reducible refine (toIntSS_any a2 len2 cap2 w.heap.size z2 w14 (r2.belowB kn14.bel (Nat.le_refl _)) kn14.bel.size h2 hrow2.out).mono ?_
  rintro e w15 ⟨rfl, u2, b15⟩
  have s15 := b15.size
  have ow_15 := ow_14.below b15 (by omega)
  clear ow_14
  have og_15 := og_14.below b15 (by omega)
  clear og_14
  have kn15 := kn14.next b15
  clear kn14 b15
  clear d0 d1 d2 d3 d4 d5
  obtain ⟨d0, d1, d2, d3, d4, d5, _⟩ := kn15.all
  go_wp2_with fail
  with_reducible refine (KI.out _ _ _ (((u2.rd hl2.out).more (by omega)))).mono ?_
  rintro e w16 ⟨Ah, ch, rfl, oh, b16⟩
  have s16 := b16.size
  have ow_16 := ow_15.below b16 (by omega)
  clear ow_15
  have og_16 := og_15.below b16 (by omega)
  clear og_15
  have u2_16 := u2.below b16 (by omega)
  clear u2
  have kn16 := kn15.next b16
  clear kn15 b16
  clear d0 d1 d2 d3 d4 d5
  obtain ⟨d0, d1, d2, d3, d4, d5, _⟩ := kn16.all
  clear u2_16
  have ne0 : w3.heap.size < w16.heap.size := by omega
  have ne1 : w6.heap.size < w16.heap.size := by omega
  go_wp2_with fail
  clear ne0 ne1
  have kn17 : Kn w [(w3.heap.size, 0, .string nmq), (w3.heap.size, 1, .int .i64 arq), (w3.heap.size, 2, .slice Aw rq.length cw), (w6.heap.size, 0, .string nmq), (w6.heap.size, 1, .int .i64 arq), (w6.heap.size, 2, .slice Ag rq.length cg), (w16.heap.size, 0, .string nmq), (w16.heap.size, 1, .int .i64 arq), (w16.heap.size, 2, .slice Ah rq.length ch)] (w16.alloc (.cells #[.string nmq, .int .i64 arq, .slice Ah rq.length ch] 27)) := kn16.box3 (.string nmq) (.int .i64 arq) (.slice Ah rq.length ch) 27
  have s17 : w16.heap.size + 1 ≤ (w16.alloc (.cells #[.string nmq, .int .i64 arq, .slice Ah rq.length ch] 27)).heap.size := by simp
  have ow_17 := ow_16.below ((Below.refl _ _).alloc (Nat.le_refl _) (.cells #[.string nmq, .int .i64 arq, .slice Ah rq.length ch] 27)) (by omega)
  clear ow_16
  have og_17 := og_16.below ((Below.refl _ _).alloc (Nat.le_refl _) (.cells #[.string nmq, .int .i64 arq, .slice Ah rq.length ch] 27)) (by omega)
  clear og_16
  have oh_17 := oh.below ((Below.refl _ _).alloc (Nat.le_refl _) (.cells #[.string nmq, .int .i64 arq, .slice Ah rq.length ch] 27)) (by omega)
  clear oh
  clear kn16
  clear d0 d1 d2 d3 d4 d5
  generalize w16.alloc (.cells #[.string nmq, .int .i64 arq, .slice Ah rq.length ch] 27) = w17 at kn17 s17 ow_17 og_17 oh_17 ⊢
  obtain ⟨d0, d1, d2, d3, d4, d5, d6, d7, d8, _⟩ := kn17.all
  go_wp2_with fail
  with_reducible refine (eqTable_same _ _ _ _ _ _ _ _ _ _ _ _ (oh_17.rd rfl) (ow_17.rd rfl) (by omega) (by omega) hbq).mono ?_
  rintro e w18 ⟨rfl, b18⟩
  have s18 := b18.size
  have ow_18 := ow_17.below b18 (by omega)
  clear ow_17
  have og_18 := og_17.below b18 (by omega)
  clear og_17
  have oh_18 := oh_17.below b18 (by omega)
  clear oh_17
  have kn18 := kn17.next b18
  clear kn17 b18
  clear d0 d1 d2 d3 d4 d5 d6 d7 d8
  obtain ⟨d0, d1, d2, d3, d4, d5, d6, d7, d8, _⟩ := kn18.all
  clear oh_18
  clear ow_18
  go_wp2_with fail
  with_reducible refine (heldTable_any _ _ _ _ _ _ _ _ _ (og_18.rd (cntR_length _ _)) (by omega) (by omega) (by omega) (by omega)).mono ?_
  rintro e w19 ⟨rfl, b19⟩
  have s19 := b19.size
  have og_19 := og_18.below b19 (by omega)
  clear og_18
  have kn19 := kn18.next b19
  clear kn18 b19
  clear d0 d1 d2 d3 d4 d5 d6 d7 d8
  obtain ⟨d0, d1, d2, d3, d4, d5, d6, d7, d8, _⟩ := kn19.all
  go_wp2_with fail
  go_ret
  exact ⟨rfl, kn19.bel⟩
end Go.Proofs.Ytanlhbmpjfamkaa
