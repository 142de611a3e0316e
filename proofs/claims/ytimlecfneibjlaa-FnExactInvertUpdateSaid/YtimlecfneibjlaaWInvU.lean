/- The walk of the law on InvertUpdate. No condition. -/
import Derived.Test.YtimlecfneibjlaaInvU
import Derived.Test.YtimlecfneibjlaaKn
import Derived.Deep.RegionHeld3
import Derived.Deep.DeepCutAuto
namespace Go.Proofs.Ytimlecfneibjlaa
open Go.RowKit Go.Deep
set_option maxRecDepth 100000 in
set_option maxHeartbeats 4000000 in
theorem invertUpdate_walk (nm0 : ByteArray) (in0 : Bool) (a0 : Option Addr) (len0 cap0 : Nat) (z0 : List Int) (w : World) (p0 : nm0.size ≤ maxLen) (ll0 : len0 ≤ maxLen) (r0 : RdI w w.heap.size a0 len0 z0) :
    Calls Try.prog 10 #[.agg #[.string nm0, .bool in0, .slice a0 len0 cap0]] w fun e w' => e = .returned (.bool true) ∧ Below w.heap.size w w' := by
  have kn0 : Kn w [(w.heap.size, 0, .string nm0), (w.heap.size, 1, .bool in0), (w.heap.size, 2, .slice a0 len0 cap0)] (w.alloc (.cells #[.string nm0, .bool in0, .slice a0 len0 cap0] 61)) := by simpa using ((Kn.start w).box3 (.string nm0) (.bool in0) (.slice a0 len0 cap0) 61)
  unfold maxLen at ll0
  have pp0 := p0
  unfold maxLen at pp0
  go_enter Try.func10, Try.ntmps10
  go_wp2_with fail
  have s0 : w.heap.size + 1 ≤ (w.alloc (.cells #[.string nm0, .bool in0, .slice a0 len0 cap0] 61)).heap.size := by simp
  generalize w.alloc (.cells #[.string nm0, .bool in0, .slice a0 len0 cap0] 61) = w0 at kn0 s0 ⊢
  with_reducible refine (szUpdate_any nm0 in0 a0 len0 cap0 _ w0 p0 (by omega) (by omega) (by omega)).mono ?_
  rintro e w1 ⟨sa, rfl, hsa, b1⟩
  have s1 := b1.size
  have kn1 := kn0.next b1
  clear kn0 b1
  obtain ⟨d0, d1, d2, _⟩ := kn1.all
  rcases hsa with rfl | ⟨hsa, hza⟩
  · go_wp2_with fail
    go_ret
    exact ⟨rfl, kn1.bel⟩
  have qsa : ¬ sa < 0 := by omega
  have qta : sa ≤ 1048576 := by omega
  have HZa := Lib.hid hza
  clear hza
  have hza := HZa.out
  have h0 : len0 ≤ 1048576 := by omega
  clear hza HZa
  have hl0 := Lib.hid r0.1
  have hb0 : z0.length ≤ 1048576 := by rw [hl0.out]; exact h0
  obtain ⟨arq, hRq⟩ : ∃ b, (!in0) = b := ⟨_, rfl⟩
  have hbq : z0.length ≤ 1048576 := (by omega : z0.length ≤ 1048576)
  have KS : Hid (∀ A0 c0 W, RdI W W.heap.size A0 z0.length z0 → Calls Try.prog 46 #[.agg #[.string nm0, .bool in0, .slice A0 z0.length c0]] W (UpdNew nm0 arq z0 W)) := fun A0 c0 W h0 => by have := spec_InvertUpdate_any nm0 in0 A0 _ c0 _ z0 W h0 (Nat.le_refl _) (by omega); rw [hRq] at this; exact this
  have KI : Hid (∀ A0 c0 W, RdI W W.heap.size A0 z0.length z0 → Calls Try.prog 47 #[.agg #[.string nm0, .bool in0, .slice A0 z0.length c0]] W (UpdNew nm0 arq z0 W)) := fun A0 c0 W h0 => by have := impl_InvertUpdate_any nm0 in0 A0 _ c0 _ z0 W h0 (Nat.le_refl _) (by omega); rw [hRq] at this; exact this
  clear hRq
  go_wp2_with fail
  with_reducible refine (toUpdate_any nm0 in0 a0 len0 cap0 w.heap.size z0 w1 (r0.belowB kn1.bel (Nat.le_refl _)) kn1.bel.size h0).mono ?_
  rintro e w2 ⟨Ao0, co0, rfl, o0, b2⟩
  have s2 := b2.size
  have kn2 := kn1.next b2
  clear kn1 b2
  clear d0 d1 d2
  obtain ⟨d0, d1, d2, _⟩ := kn2.all
  go_wp2_with fail
  with_reducible refine (KS.out _ _ _ (((o0.rd rfl).more (by omega)))).mono ?_
  rintro e w3 ⟨Aw, cw, rfl, ow, b3⟩
  have s3 := b3.size
  have o0_3 := o0.below b3 (by omega)
  clear o0
  have kn3 := kn2.next b3
  clear kn2 b3
  clear d0 d1 d2
  obtain ⟨d0, d1, d2, _⟩ := kn3.all
  clear o0_3
  have ne0 : w.heap.size < w3.heap.size := by omega
  go_wp2_with fail
  clear ne0
  have kn4 : Kn w [(w.heap.size, 0, .string nm0), (w.heap.size, 1, .bool in0), (w.heap.size, 2, .slice a0 len0 cap0), (w3.heap.size, 0, .string nm0), (w3.heap.size, 1, .bool arq), (w3.heap.size, 2, .slice Aw z0.length cw)] (w3.alloc (.cells #[.string nm0, .bool arq, .slice Aw z0.length cw] 64)) := kn3.box3 (.string nm0) (.bool arq) (.slice Aw z0.length cw) 64
  have s4 : w3.heap.size + 1 ≤ (w3.alloc (.cells #[.string nm0, .bool arq, .slice Aw z0.length cw] 64)).heap.size := by simp
  have ow_4 := ow.below ((Below.refl _ _).alloc (Nat.le_refl _) (.cells #[.string nm0, .bool arq, .slice Aw z0.length cw] 64)) (by omega)
  clear ow
  clear kn3
  clear d0 d1 d2
  generalize w3.alloc (.cells #[.string nm0, .bool arq, .slice Aw z0.length cw] 64) = w4 at kn4 s4 ow_4 ⊢
  obtain ⟨d0, d1, d2, d3, d4, d5, _⟩ := kn4.all
  go_wp2_with fail
  with_reducible refine (toUpdate_any nm0 in0 a0 len0 cap0 w.heap.size z0 w4 (r0.belowB kn4.bel (Nat.le_refl _)) kn4.bel.size h0).mono ?_
  rintro e w5 ⟨Ax0, cx0, rfl, x0, b5⟩
  have s5 := b5.size
  have ow_5 := ow_4.below b5 (by omega)
  clear ow_4
  have kn5 := kn4.next b5
  clear kn4 b5
  clear d0 d1 d2 d3 d4 d5
  obtain ⟨d0, d1, d2, d3, d4, d5, _⟩ := kn5.all
  have ne0 : w.heap.size < w5.heap.size := by omega
  have ne1 : w3.heap.size < w5.heap.size := by omega
  go_wp2_with fail
  clear ne0 ne1
  have kn6 : Kn w [(w.heap.size, 0, .string nm0), (w.heap.size, 1, .bool in0), (w.heap.size, 2, .slice a0 len0 cap0), (w3.heap.size, 0, .string nm0), (w3.heap.size, 1, .bool arq), (w3.heap.size, 2, .slice Aw z0.length cw), (w5.heap.size, 0, .string nm0), (w5.heap.size, 1, .bool in0), (w5.heap.size, 2, .slice Ax0 z0.length cx0)] (w5.alloc (.cells #[.string nm0, .bool in0, .slice Ax0 z0.length cx0] 64)) := kn5.box3 (.string nm0) (.bool in0) (.slice Ax0 z0.length cx0) 64
  have s6 : w5.heap.size + 1 ≤ (w5.alloc (.cells #[.string nm0, .bool in0, .slice Ax0 z0.length cx0] 64)).heap.size := by simp
  have ow_6 := ow_5.below ((Below.refl _ _).alloc (Nat.le_refl _) (.cells #[.string nm0, .bool in0, .slice Ax0 z0.length cx0] 64)) (by omega)
  clear ow_5
  have x0_6 := x0.below ((Below.refl _ _).alloc (Nat.le_refl _) (.cells #[.string nm0, .bool in0, .slice Ax0 z0.length cx0] 64)) (by omega)
  clear x0
  clear kn5
  clear d0 d1 d2 d3 d4 d5
  generalize w5.alloc (.cells #[.string nm0, .bool in0, .slice Ax0 z0.length cx0] 64) = w6 at kn6 s6 ow_6 x0_6 ⊢
  obtain ⟨d0, d1, d2, d3, d4, d5, d6, d7, d8, _⟩ := kn6.all
  go_wp2_with fail
  with_reducible refine (KI.out _ _ _ (((x0_6.rd rfl).more (by omega)))).mono ?_
  rintro e w7 ⟨Ag, cg, rfl, og, b7⟩
  have s7 := b7.size
  have ow_7 := ow_6.below b7 (by omega)
  clear ow_6
  have x0_7 := x0_6.below b7 (by omega)
  clear x0_6
  have kn7 := kn6.next b7
  clear kn6 b7
  clear d0 d1 d2 d3 d4 d5 d6 d7 d8
  obtain ⟨d0, d1, d2, d3, d4, d5, d6, d7, d8, _⟩ := kn7.all
  have ne0 : w.heap.size < w7.heap.size := by omega
  have ne1 : w3.heap.size < w7.heap.size := by omega
  have ne2 : w5.heap.size < w7.heap.size := by omega
  go_wp2_with fail
  clear ne0 ne1 ne2
  have kn8 : Kn w [(w.heap.size, 0, .string nm0), (w.heap.size, 1, .bool in0), (w.heap.size, 2, .slice a0 len0 cap0), (w3.heap.size, 0, .string nm0), (w3.heap.size, 1, .bool arq), (w3.heap.size, 2, .slice Aw z0.length cw), (w5.heap.size, 0, .string nm0), (w5.heap.size, 1, .bool in0), (w5.heap.size, 2, .slice Ax0 z0.length cx0), (w7.heap.size, 0, .string nm0), (w7.heap.size, 1, .bool arq), (w7.heap.size, 2, .slice Ag z0.length cg)] (w7.alloc (.cells #[.string nm0, .bool arq, .slice Ag z0.length cg] 64)) := kn7.box3 (.string nm0) (.bool arq) (.slice Ag z0.length cg) 64
  have s8 : w7.heap.size + 1 ≤ (w7.alloc (.cells #[.string nm0, .bool arq, .slice Ag z0.length cg] 64)).heap.size := by simp
  have ow_8 := ow_7.below ((Below.refl _ _).alloc (Nat.le_refl _) (.cells #[.string nm0, .bool arq, .slice Ag z0.length cg] 64)) (by omega)
  clear ow_7
  have x0_8 := x0_7.below ((Below.refl _ _).alloc (Nat.le_refl _) (.cells #[.string nm0, .bool arq, .slice Ag z0.length cg] 64)) (by omega)
  clear x0_7
  have og_8 := og.below ((Below.refl _ _).alloc (Nat.le_refl _) (.cells #[.string nm0, .bool arq, .slice Ag z0.length cg] 64)) (by omega)
  clear og
  clear kn7
  clear d0 d1 d2 d3 d4 d5 d6 d7 d8
  generalize w7.alloc (.cells #[.string nm0, .bool arq, .slice Ag z0.length cg] 64) = w8 at kn8 s8 ow_8 x0_8 og_8 ⊢
  obtain ⟨d0, d1, d2, d3, d4, d5, d6, d7, d8, d9, d10, d11, _⟩ := kn8.all
  go_wp2_with fail
  with_reducible refine (eqUpdate_same _ _ _ _ _ _ _ _ _ _ _ _ (og_8.rd rfl) (ow_8.rd rfl) (by omega) (by omega) hbq).mono ?_
  rintro e w9 ⟨rfl, b9⟩
  have s9 := b9.size
  have ow_9 := ow_8.below b9 (by omega)
  clear ow_8
  have x0_9 := x0_8.below b9 (by omega)
  clear x0_8
  have og_9 := og_8.below b9 (by omega)
  clear og_8
  have kn9 := kn8.next b9
  clear kn8 b9
  clear d0 d1 d2 d3 d4 d5 d6 d7 d8 d9 d10 d11
  obtain ⟨d0, d1, d2, d3, d4, d5, d6, d7, d8, d9, d10, d11, _⟩ := kn9.all
  go_wp2_with fail
  have KT : Hid (∀ W, Below w9.heap.size w9 W → Calls Try.prog 43 #[.agg #[.string nm0, .bool in0, .slice a0 len0 cap0]] W (UpdNew nm0 in0 z0 W)) := fun W b => toUpdate_any nm0 in0 a0 len0 cap0 w.heap.size z0 W (r0.belowB (kn9.next b).bel (Nat.le_refl _)) (kn9.next b).bel.size h0
  have KE : Hid (∀ W A c', Below w9.heap.size w9 W → RdI W W.heap.size A z0.length z0 → Calls Try.prog 45 #[.agg #[.string nm0, .bool in0, .slice Ax0 z0.length cx0], .agg #[.string nm0, .bool in0, .slice A z0.length c']] W fun e w' => e = .returned (.bool true) ∧ Below W.heap.size W w') := fun W A c' b h => eqUpdate_same _ _ _ _ _ _ _ _ _ _ _ W ((x0_9.rd rfl).belowB b (by omega)) h (Nat.le_trans (by omega) b.size) (Nat.le_refl _) hb0
  go_wp2_with fail
  have bz : Below w9.heap.size w9 w9.drew := (Below.refl _ _).drew
  go_region_held3 (fun W => W.cell? ⟨w.heap.size, 0, none⟩ = some (.string nm0) ∧ W.cell? ⟨w.heap.size, 1, none⟩ = some (.bool in0) ∧ W.cell? ⟨w.heap.size, 2, none⟩ = some (.slice a0 len0 cap0) ∧ W.cell? ⟨w3.heap.size, 0, none⟩ = some (.string nm0) ∧ W.cell? ⟨w3.heap.size, 1, none⟩ = some (.bool arq) ∧ W.cell? ⟨w3.heap.size, 2, none⟩ = some (.slice Aw z0.length cw) ∧ W.cell? ⟨w5.heap.size, 0, none⟩ = some (.string nm0) ∧ W.cell? ⟨w5.heap.size, 1, none⟩ = some (.bool in0) ∧ W.cell? ⟨w5.heap.size, 2, none⟩ = some (.slice Ax0 z0.length cx0) ∧ W.cell? ⟨w7.heap.size, 0, none⟩ = some (.string nm0) ∧ W.cell? ⟨w7.heap.size, 1, none⟩ = some (.bool arq) ∧ W.cell? ⟨w7.heap.size, 2, none⟩ = some (.slice Ag z0.length cg) ∧ Below w9.heap.size w9 W)
    (first | assumption | exact Kn.allB kn9 (by assumption))
    (first | (go_at_call 43; ((with_reducible refine (KT.out _ (by assumption)).mono ?_); rintro e w1 ⟨A', c', rfl, ho, b1⟩; have bz := bel_step (by assumption) b1; have rd := ho.rd rfl; clear ho)) | (go_at_call 45; ((with_reducible refine (KE.out _ _ _ (by assumption) (by assumption)).mono ?_); rintro e w10 ⟨rfl, b1⟩; have bz := bel_step (by assumption) b1)))
  have b10 := bz
  have s10 := b10.size
  have ow_10 := ow_9.below b10 (by omega)
  clear ow_9
  have x0_10 := x0_9.below b10 (by omega)
  clear x0_9
  have og_10 := og_9.below b10 (by omega)
  clear og_9
  have kn10 := kn9.next b10
  clear kn9 b10
  clear d0 d1 d2 d3 d4 d5 d6 d7 d8 d9 d10 d11
  obtain ⟨d0, d1, d2, d3, d4, d5, d6, d7, d8, d9, d10, d11, _⟩ := kn10.all
  clear KT KE
  go_wp2_with fail
  with_reducible refine (markUpdate_any _ _ _ _ _ _ _ _ _ _ x0_10 (by omega) (by omega) (by omega)).mono ?_
  rintro e w11 ⟨rfl, x0m, b11⟩
  have s11 := b11.size
  have ow_11 := ow_10.chg b11 (by omega)
  clear ow_10
  have og_11 := og_10.chg b11 (by omega)
  clear og_10
  have kn11 := kn10.chg b11 (by omega) (by simp only [List.forall_mem_cons]; simp; try omega)
  clear kn10 b11
  clear d0 d1 d2 d3 d4 d5 d6 d7 d8 d9 d10 d11
  obtain ⟨d0, d1, d2, d3, d4, d5, d6, d7, d8, d9, d10, d11, _⟩ := kn11.all
  clear x0m
  have kn12 : Kn w [(w.heap.size, 0, .string nm0), (w.heap.size, 1, .bool in0), (w.heap.size, 2, .slice a0 len0 cap0), (w3.heap.size, 0, .string nm0), (w3.heap.size, 1, .bool arq), (w3.heap.size, 2, .slice Aw z0.length cw), (w7.heap.size, 0, .string nm0), (w7.heap.size, 1, .bool arq), (w7.heap.size, 2, .slice Ag z0.length cg)] w11 := kn11.sub (by simp)
  clear kn11
  clear d0 d1 d2 d3 d4 d5 d6 d7 d8 d9 d10 d11
  obtain ⟨d0, d1, d2, d3, d4, d5, d6, d7, d8, _⟩ := kn12.all
  have qn : ¬ (1 + ((z0.length : Nat) : Int) < 0) := by omega
  go_wp2_with fail
  with_reducible refine (eqUpdate_same _ _ _ _ _ _ _ _ _ _ _ _ (og_11.rd rfl) (ow_11.rd rfl) (by omega) (by omega) hbq).mono ?_
  rintro e w13 ⟨rfl, b13⟩
  have s13 := b13.size
  have ow_13 := ow_11.below b13 (by omega)
  clear ow_11
  have og_13 := og_11.below b13 (by omega)
  clear og_11
  have kn13 := kn12.next b13
  clear kn12 b13
  clear d0 d1 d2 d3 d4 d5 d6 d7 d8
  obtain ⟨d0, d1, d2, d3, d4, d5, d6, d7, d8, _⟩ := kn13.all
  clear qn
  go_wp2_with fail
  with_reducible refine (markUpdate_any _ _ _ _ _ _ _ _ _ _ og_13 (by omega) (by omega) (by omega)).mono ?_
  rintro e w14 ⟨rfl, ogm, b14⟩
  have s14 := b14.size
  have ow_14 := ow_13.chg b14 (by omega)
  clear ow_13
  have kn14 := kn13.chg b14 (by omega) (by simp only [List.forall_mem_cons]; simp; try omega)
  clear kn13 b14
  clear d0 d1 d2 d3 d4 d5 d6 d7 d8
  obtain ⟨d0, d1, d2, d3, d4, d5, d6, d7, d8, _⟩ := kn14.all
  have qn : ¬ (1 + ((z0.length : Nat) : Int) < 0) := by omega
  have qm : (1 + ((z0.length : Nat) : Int) != 1 + ((z0.length : Nat) : Int)) = false := by simp
  go_wp2_with fail
  with_reducible refine (heldUpdate_any _ _ _ _ _ _ _ _ (ogm.rd (cnt_length _ _)) (by omega) (by omega) (by omega) (by omega)).mono ?_
  rintro e w15 ⟨rfl, b15⟩
  have s15 := b15.size
  have ow_15 := ow_14.below b15 (by omega)
  clear ow_14
  have og_15 := ogm.below b15 (by omega)
  clear ogm
  have kn15 := kn14.next b15
  clear kn14 b15
  clear d0 d1 d2 d3 d4 d5 d6 d7 d8
  obtain ⟨d0, d1, d2, d3, d4, d5, d6, d7, d8, _⟩ := kn15.all
  go_wp2_with fail
  with_reducible refine (toUpdate_any nm0 in0 a0 len0 cap0 w.heap.size z0 w15 (r0.belowB kn15.bel (Nat.le_refl _)) kn15.bel.size h0).mono ?_
  rintro e w16 ⟨Au0, cu0, rfl, u0, b16⟩
  have s16 := b16.size
  have ow_16 := ow_15.below b16 (by omega)
  clear ow_15
  have og_16 := og_15.below b16 (by omega)
  clear og_15
  have kn16 := kn15.next b16
  clear kn15 b16
  clear d0 d1 d2 d3 d4 d5 d6 d7 d8
  obtain ⟨d0, d1, d2, d3, d4, d5, d6, d7, d8, _⟩ := kn16.all
  go_wp2_with fail
  with_reducible refine (KI.out _ _ _ (((u0.rd rfl).more (by omega)))).mono ?_
  rintro e w17 ⟨Ah, ch, rfl, oh, b17⟩
  have s17 := b17.size
  have ow_17 := ow_16.below b17 (by omega)
  clear ow_16
  have og_17 := og_16.below b17 (by omega)
  clear og_16
  have u0_17 := u0.below b17 (by omega)
  clear u0
  have kn17 := kn16.next b17
  clear kn16 b17
  clear d0 d1 d2 d3 d4 d5 d6 d7 d8
  obtain ⟨d0, d1, d2, d3, d4, d5, d6, d7, d8, _⟩ := kn17.all
  clear u0_17
  have ne0 : w.heap.size < w17.heap.size := by omega
  have ne1 : w3.heap.size < w17.heap.size := by omega
  have ne2 : w7.heap.size < w17.heap.size := by omega
  go_wp2_with fail
  clear ne0 ne1 ne2
  have kn18 : Kn w [(w.heap.size, 0, .string nm0), (w.heap.size, 1, .bool in0), (w.heap.size, 2, .slice a0 len0 cap0), (w3.heap.size, 0, .string nm0), (w3.heap.size, 1, .bool arq), (w3.heap.size, 2, .slice Aw z0.length cw), (w7.heap.size, 0, .string nm0), (w7.heap.size, 1, .bool arq), (w7.heap.size, 2, .slice Ag z0.length cg), (w17.heap.size, 0, .string nm0), (w17.heap.size, 1, .bool arq), (w17.heap.size, 2, .slice Ah z0.length ch)] (w17.alloc (.cells #[.string nm0, .bool arq, .slice Ah z0.length ch] 64)) := kn17.box3 (.string nm0) (.bool arq) (.slice Ah z0.length ch) 64
  have s18 : w17.heap.size + 1 ≤ (w17.alloc (.cells #[.string nm0, .bool arq, .slice Ah z0.length ch] 64)).heap.size := by simp
  have ow_18 := ow_17.below ((Below.refl _ _).alloc (Nat.le_refl _) (.cells #[.string nm0, .bool arq, .slice Ah z0.length ch] 64)) (by omega)
  clear ow_17
  have og_18 := og_17.below ((Below.refl _ _).alloc (Nat.le_refl _) (.cells #[.string nm0, .bool arq, .slice Ah z0.length ch] 64)) (by omega)
  clear og_17
  have oh_18 := oh.below ((Below.refl _ _).alloc (Nat.le_refl _) (.cells #[.string nm0, .bool arq, .slice Ah z0.length ch] 64)) (by omega)
  clear oh
  clear kn17
  clear d0 d1 d2 d3 d4 d5 d6 d7 d8
  generalize w17.alloc (.cells #[.string nm0, .bool arq, .slice Ah z0.length ch] 64) = w18 at kn18 s18 ow_18 og_18 oh_18 ⊢
  obtain ⟨d0, d1, d2, d3, d4, d5, d6, d7, d8, d9, d10, d11, _⟩ := kn18.all
  go_wp2_with fail
  with_reducible refine (eqUpdate_same _ _ _ _ _ _ _ _ _ _ _ _ (oh_18.rd rfl) (ow_18.rd rfl) (by omega) (by omega) hbq).mono ?_
  rintro e w19 ⟨rfl, b19⟩
  have s19 := b19.size
  have ow_19 := ow_18.below b19 (by omega)
  clear ow_18
  have og_19 := og_18.below b19 (by omega)
  clear og_18
  have oh_19 := oh_18.below b19 (by omega)
  clear oh_18
  have kn19 := kn18.next b19
  clear kn18 b19
  clear d0 d1 d2 d3 d4 d5 d6 d7 d8 d9 d10 d11
  obtain ⟨d0, d1, d2, d3, d4, d5, d6, d7, d8, d9, d10, d11, _⟩ := kn19.all
  clear oh_19
  clear ow_19
  go_wp2_with fail
  with_reducible refine (heldUpdate_any _ _ _ _ _ _ _ _ (og_19.rd (cnt_length _ _)) (by omega) (by omega) (by omega) (by omega)).mono ?_
  rintro e w20 ⟨rfl, b20⟩
  have s20 := b20.size
  have og_20 := og_19.below b20 (by omega)
  clear og_19
  have kn20 := kn19.next b20
  clear kn19 b20
  clear d0 d1 d2 d3 d4 d5 d6 d7 d8 d9 d10 d11
  obtain ⟨d0, d1, d2, d3, d4, d5, d6, d7, d8, d9, d10, d11, _⟩ := kn20.all
  go_wp2_with fail
  go_ret
  exact ⟨rfl, kn20.bel⟩
end Go.Proofs.Ytimlecfneibjlaa
