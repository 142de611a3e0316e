/- The walk of the law on ApplyUpdates. No condition. -/
import Derived.Test.YtimlecfneibjlaaUApps
import Derived.Test.YtimlecfneibjlaaKn
import Derived.Test.YtimlecfneibjlaaDbHeld
import Derived.Deep.RegionHeld3
import Derived.Deep.DeepCutAuto
namespace Go.Proofs.Ytimlecfneibjlaa
open Go.RowKit Go.Deep
set_option maxRecDepth 100000 in
set_option maxHeartbeats 4000000 in
theorem applyUpdates_walk (a0 : Option Addr) (len0 cap0 : Nat) (z0 : List Tab) (a1 : Option Addr) (len1 cap1 : Nat) (z1 : List Upd) (w : World) (ll0 : len0 ≤ maxLen) (r0 : RdT w w.heap.size a0 len0 z0) (ll1 : len1 ≤ maxLen) (r1 : RdU w w.heap.size a1 len1 z1) :
    Calls Try.prog 8 #[.agg #[.slice a0 len0 cap0], .slice a1 len1 cap1] w fun e w' => e = .returned (.bool true) ∧ Below w.heap.size w w' := by
  have kn0 : Kn w [(w.heap.size, 0, .slice a0 len0 cap0)] (w.alloc (.cells #[.slice a0 len0 cap0] 24)) := by simpa using ((Kn.start w).box1 (.slice a0 len0 cap0) 24)
  unfold maxLen at ll0
  unfold maxLen at ll1
  go_enter Try.func8, Try.ntmps8
  go_wp2_with fail
  have s0 : w.heap.size + 1 ≤ (w.alloc (.cells #[.slice a0 len0 cap0] 24)).heap.size := by simp
  generalize w.alloc (.cells #[.slice a0 len0 cap0] 24) = w0 at kn0 s0 ⊢
  with_reducible refine (szDatabase_any a0 len0 cap0 w.heap.size _ z0 w0 (r0.belowB kn0.bel (Nat.le_refl _)) kn0.bel.size (by omega) (by omega) (by omega)).mono ?_
  rintro e w1 ⟨sa, rfl, hsa, b1⟩
  have s1 := b1.size
  have kn1 := kn0.next b1
  clear kn0 b1
  obtain ⟨d0, _⟩ := kn1.all
  rcases hsa with rfl | ⟨hsa, hza⟩
  · go_wp2_with fail
    go_ret
    exact ⟨rfl, kn1.bel⟩
  have qsa : ¬ sa < 0 := by omega
  have qta : sa ≤ 1048576 := by omega
  have HZa := Lib.hid hza
  clear hza
  go_wp2_with fail
  with_reducible refine (szUpdateS_any a1 len1 cap1 w.heap.size _ z1 w1 (r1.belowB kn1.bel (Nat.le_refl _)) kn1.bel.size hsa qta (by omega)).mono ?_
  rintro e w2 ⟨sb, rfl, hsb, b2⟩
  have s2 := b2.size
  have kn2 := kn1.next b2
  clear kn1 b2
  clear d0
  obtain ⟨d0, _⟩ := kn2.all
  rcases hsb with rfl | ⟨hsb, hzb⟩
  · go_wp2_with fail
    go_ret
    exact ⟨rfl, kn2.bel⟩
  have qsb : ¬ sb < 0 := by omega
  have qtb : sb ≤ 1048576 := by omega
  have HZb := Lib.hid hzb
  clear hzb
  have hza := HZa.out
  have hzb := HZb.out
  have h0 : len0 ≤ 1048576 := by omega
  have hdb0 : Hid (sumT z0 ≤ 1048576) := by show _ ≤ _; omega
  have h1 : len1 ≤ 1048576 := by omega
  have hup1 : Hid (sumU z1 ≤ 1048576) := by show _ ≤ _; omega
  clear hza hzb HZa HZb
  have hl0 := Lib.hid r0.1
  have hb0 : z0.length ≤ 1048576 := by rw [hl0.out]; exact h0
  have hrs0 : Hid (∀ t ∈ z0, t.rs.length ≤ 1048576) := fun t ht => (sumT_small hdb0.out t ht).1
  have hm0 : mrkT z0 ≤ 4194304 := by have := mrkT_le z0; have := hdb0.out; omega
  have hl1 := Lib.hid r1.1
  have hb1 : z1.length ≤ 1048576 := by rw [hl1.out]; exact h1
  have hrs1 : Hid (∀ t ∈ z1, t.zs.length ≤ 1048576) := fun t ht => by have := sumU_mem ht; have := hup1.out; omega
  have hm1 : mrkU z1 ≤ 4194304 := by have := mrkU_le z1; have := hup1.out; omega
  obtain ⟨rq, okq, hRq⟩ : ∃ a b, appsR z0 z1 = (a, b) := ⟨_, _, rfl⟩
  have hbq : rq.length ≤ 1048576 ∧ sumT rq ≤ 1048576 := by have := appsR_small (ts := z0) (us := z1) hb0 hdb0.out; rw [hRq] at this; exact this
  obtain ⟨hbq, hsq⟩ := hbq
  have hrsq : Hid (∀ t ∈ rq, t.rs.length ≤ 1048576) := fun t ht => (sumT_small hsq t ht).1
  have hmq : mrkT rq ≤ 4194304 := by have := mrkT_le rq; omega
  have KS : Hid (∀ A0 c0 A1 c1 W, RdT W W.heap.size A0 z0.length z0 → RdU W W.heap.size A1 len1 z1 → Calls Try.prog 36 #[.agg #[.slice A0 z0.length c0], .slice A1 len1 c1] W (DbAnsI rq okq W)) := fun A0 c0 A1 c1 W h0 h1 => by have := spec_ApplyUpdates_any A0 _ c0 _ z0 A1 _ c1 z1 W h0 (Nat.le_refl _) (by omega) hdb0.out h1 (by omega) hup1.out; rw [hRq] at this; exact this
  have KI : Hid (∀ A0 c0 A1 c1 W, RdT W W.heap.size A0 z0.length z0 → RdU W W.heap.size A1 len1 z1 → Calls Try.prog 38 #[.agg #[.slice A0 z0.length c0], .slice A1 len1 c1] W (DbAnsI rq okq W)) := fun A0 c0 A1 c1 W h0 h1 => by have := impl_ApplyUpdates_any A0 _ c0 _ z0 A1 _ c1 z1 W h0 (Nat.le_refl _) (by omega) hdb0.out h1 (by omega) hup1.out; rw [hRq] at this; exact this
  clear hRq
  go_wp2_with fail
  with_reducible refine (toDatabase_any a0 len0 cap0 w.heap.size z0 w2 (r0.belowB kn2.bel (Nat.le_refl _)) kn2.bel.size h0 hdb0.out).mono ?_
  rintro e w3 ⟨Ao0, co0, rfl, o0, b3⟩
  have s3 := b3.size
  have kn3 := kn2.next b3
  clear kn2 b3
  clear d0
  obtain ⟨d0, _⟩ := kn3.all
  go_wp2_with fail
  with_reducible refine (toUpdateS_any a1 len1 cap1 w.heap.size z1 w3 (r1.belowB kn3.bel (Nat.le_refl _)) kn3.bel.size h1 hrs1.out).mono ?_
  rintro e w4 ⟨rfl, o1, b4⟩
  have s4 := b4.size
  have o0_4 := o0.below b4 (by omega)
  clear o0
  have kn4 := kn3.next b4
  clear kn3 b4
  clear d0
  obtain ⟨d0, _⟩ := kn4.all
  go_wp2_with fail
  with_reducible refine (KS.out _ _ _ _ _ (((o0_4.rd rfl).more (by omega))) (((o1.rd hl1.out).more (by omega)))).mono ?_
  rintro e w5 ⟨Aw, cw, rfl, ow, b5⟩
  have s5 := b5.size
  have o0_5 := o0_4.below b5 (by omega)
  clear o0_4
  have o1_5 := o1.below b5 (by omega)
  clear o1
  have kn5 := kn4.next b5
  clear kn4 b5
  clear d0
  obtain ⟨d0, _⟩ := kn5.all
  clear o0_5
  clear o1_5
  have ne0 : w.heap.size < w5.heap.size := by omega
  go_wp2_with fail
  clear ne0
  have kn6 : Kn w [(w.heap.size, 0, .slice a0 len0 cap0), (w5.heap.size, 0, .slice Aw rq.length cw)] (w5.alloc (.cells #[.slice Aw rq.length cw] 29)) := kn5.box1 (.slice Aw rq.length cw) 29
  have s6 : w5.heap.size + 1 ≤ (w5.alloc (.cells #[.slice Aw rq.length cw] 29)).heap.size := by simp
  have ow_6 := ow.below ((Below.refl _ _).alloc (Nat.le_refl _) (.cells #[.slice Aw rq.length cw] 29)) (by omega)
  clear ow
  clear kn5
  clear d0
  generalize w5.alloc (.cells #[.slice Aw rq.length cw] 29) = w6 at kn6 s6 ow_6 ⊢
  obtain ⟨d0, d1, _⟩ := kn6.all
  go_wp2_with fail
  with_reducible refine (toDatabase_any a0 len0 cap0 w.heap.size z0 w6 (r0.belowB kn6.bel (Nat.le_refl _)) kn6.bel.size h0 hdb0.out).mono ?_
  rintro e w7 ⟨Ax0, cx0, rfl, x0, b7⟩
  have s7 := b7.size
  have ow_7 := ow_6.below b7 (by omega)
  clear ow_6
  have kn7 := kn6.next b7
  clear kn6 b7
  clear d0 d1
  obtain ⟨d0, d1, _⟩ := kn7.all
  have ne0 : w.heap.size < w7.heap.size := by omega
  have ne1 : w5.heap.size < w7.heap.size := by omega
  go_wp2_with fail
  clear ne0 ne1
  have kn8 : Kn w [(w.heap.size, 0, .slice a0 len0 cap0), (w5.heap.size, 0, .slice Aw rq.length cw), (w7.heap.size, 0, .slice Ax0 z0.length cx0)] (w7.alloc (.cells #[.slice Ax0 z0.length cx0] 29)) := kn7.box1 (.slice Ax0 z0.length cx0) 29
  have s8 : w7.heap.size + 1 ≤ (w7.alloc (.cells #[.slice Ax0 z0.length cx0] 29)).heap.size := by simp
  have ow_8 := ow_7.below ((Below.refl _ _).alloc (Nat.le_refl _) (.cells #[.slice Ax0 z0.length cx0] 29)) (by omega)
  clear ow_7
  have x0_8 := x0.below ((Below.refl _ _).alloc (Nat.le_refl _) (.cells #[.slice Ax0 z0.length cx0] 29)) (by omega)
  clear x0
  clear kn7
  clear d0 d1
  generalize w7.alloc (.cells #[.slice Ax0 z0.length cx0] 29) = w8 at kn8 s8 ow_8 x0_8 ⊢
  obtain ⟨d0, d1, d2, _⟩ := kn8.all
  go_wp2_with fail
  with_reducible refine (toUpdateS_any a1 len1 cap1 w.heap.size z1 w8 (r1.belowB kn8.bel (Nat.le_refl _)) kn8.bel.size h1 hrs1.out).mono ?_
  rintro e w9 ⟨rfl, x1, b9⟩
  have s9 := b9.size
  have ow_9 := ow_8.below b9 (by omega)
  clear ow_8
  have x0_9 := x0_8.below b9 (by omega)
  clear x0_8
  have kn9 := kn8.next b9
  clear kn8 b9
  clear d0 d1 d2
  obtain ⟨d0, d1, d2, _⟩ := kn9.all
  go_wp2_with fail
  with_reducible refine (KI.out _ _ _ _ _ (((x0_9.rd rfl).more (by omega))) (((x1.rd hl1.out).more (by omega)))).mono ?_
  rintro e w10 ⟨Ag, cg, rfl, og, b10⟩
  have s10 := b10.size
  have ow_10 := ow_9.below b10 (by omega)
  clear ow_9
  have x0_10 := x0_9.below b10 (by omega)
  clear x0_9
  have x1_10 := x1.below b10 (by omega)
  clear x1
  have kn10 := kn9.next b10
  clear kn9 b10
  clear d0 d1 d2
  obtain ⟨d0, d1, d2, _⟩ := kn10.all
  have ne0 : w.heap.size < w10.heap.size := by omega
  have ne1 : w5.heap.size < w10.heap.size := by omega
  have ne2 : w7.heap.size < w10.heap.size := by omega
  go_wp2_with fail
  clear ne0 ne1 ne2
  have kn11 : Kn w [(w.heap.size, 0, .slice a0 len0 cap0), (w5.heap.size, 0, .slice Aw rq.length cw), (w7.heap.size, 0, .slice Ax0 z0.length cx0), (w10.heap.size, 0, .slice Ag rq.length cg)] (w10.alloc (.cells #[.slice Ag rq.length cg] 29)) := kn10.box1 (.slice Ag rq.length cg) 29
  have s11 : w10.heap.size + 1 ≤ (w10.alloc (.cells #[.slice Ag rq.length cg] 29)).heap.size := by simp
  have ow_11 := ow_10.below ((Below.refl _ _).alloc (Nat.le_refl _) (.cells #[.slice Ag rq.length cg] 29)) (by omega)
  clear ow_10
  have x0_11 := x0_10.below ((Below.refl _ _).alloc (Nat.le_refl _) (.cells #[.slice Ag rq.length cg] 29)) (by omega)
  clear x0_10
  have x1_11 := x1_10.below ((Below.refl _ _).alloc (Nat.le_refl _) (.cells #[.slice Ag rq.length cg] 29)) (by omega)
  clear x1_10
  have og_11 := og.below ((Below.refl _ _).alloc (Nat.le_refl _) (.cells #[.slice Ag rq.length cg] 29)) (by omega)
  clear og
  clear kn10
  clear d0 d1 d2
  generalize w10.alloc (.cells #[.slice Ag rq.length cg] 29) = w11 at kn11 s11 ow_11 x0_11 x1_11 og_11 ⊢
  obtain ⟨d0, d1, d2, d3, _⟩ := kn11.all
  have qk : (okq != okq) = false := by simp
  go_wp2_with fail
  with_reducible refine (eqDatabase_same _ _ _ _ _ _ _ _ _ _ (og_11.rd rfl) (ow_11.rd rfl) (by omega) (by omega) hbq).mono ?_
  rintro e w12 ⟨rfl, b12⟩
  have s12 := b12.size
  have ow_12 := ow_11.below b12 (by omega)
  clear ow_11
  have x0_12 := x0_11.below b12 (by omega)
  clear x0_11
  have x1_12 := x1_11.below b12 (by omega)
  clear x1_11
  have og_12 := og_11.below b12 (by omega)
  clear og_11
  have kn12 := kn11.next b12
  clear kn11 b12
  clear d0 d1 d2 d3
  obtain ⟨d0, d1, d2, d3, _⟩ := kn12.all
  go_wp2_with fail
  have KT : Hid (∀ W, Below w12.heap.size w12 W → Calls Try.prog 17 #[.agg #[.slice a0 len0 cap0]] W (DbNew z0 W)) := fun W b => toDatabase_any a0 len0 cap0 w.heap.size z0 W (r0.belowB (kn12.next b).bel (Nat.le_refl _)) (kn12.next b).bel.size h0 hdb0.out
  have KE : Hid (∀ W A c', Below w12.heap.size w12 W → RdT W W.heap.size A z0.length z0 → Calls Try.prog 19 #[.agg #[.slice Ax0 z0.length cx0], .agg #[.slice A z0.length c']] W fun e w' => e = .returned (.bool true) ∧ Below W.heap.size W w') := fun W A c' b h => eqDatabase_same _ _ _ _ _ _ _ _ _ W ((x0_12.rd rfl).belowB b (by omega)) h (Nat.le_trans (by omega) b.size) (Nat.le_refl _) hb0
  go_wp2_with fail
  have bz : Below w12.heap.size w12 w12.drew := (Below.refl _ _).drew
  go_region_held3 (fun W => W.cell? ⟨w.heap.size, 0, none⟩ = some (.slice a0 len0 cap0) ∧ W.cell? ⟨w5.heap.size, 0, none⟩ = some (.slice Aw rq.length cw) ∧ W.cell? ⟨w7.heap.size, 0, none⟩ = some (.slice Ax0 z0.length cx0) ∧ W.cell? ⟨w10.heap.size, 0, none⟩ = some (.slice Ag rq.length cg) ∧ Below w12.heap.size w12 W)
    (first | assumption | exact Kn.allB kn12 (by assumption))
    (first | (go_at_call 17; ((with_reducible refine (KT.out _ (by assumption)).mono ?_); rintro e w1 ⟨A', c', rfl, ho, b1⟩; have bz := bel_step (by assumption) b1; have rd := ho.rd rfl; clear ho)) | (go_at_call 19; ((with_reducible refine (KE.out _ _ _ (by assumption) (by assumption)).mono ?_); rintro e w13 ⟨rfl, b1⟩; have bz := bel_step (by assumption) b1)))
  have b13 := bz
  have s13 := b13.size
  have ow_13 := ow_12.below b13 (by omega)
  clear ow_12
  have x0_13 := x0_12.below b13 (by omega)
  clear x0_12
  have x1_13 := x1_12.below b13 (by omega)
  clear x1_12
  have og_13 := og_12.below b13 (by omega)
  clear og_12
  have kn13 := kn12.next b13
  clear kn12 b13
  clear d0 d1 d2 d3
  obtain ⟨d0, d1, d2, d3, _⟩ := kn13.all
  clear KT KE
  go_wp2_with fail
  with_reducible refine (toUpdateS_any a1 len1 cap1 w.heap.size z1 w13 (r1.belowB kn13.bel (Nat.le_refl _)) kn13.bel.size h1 hrs1.out).mono ?_
  rintro e w14 ⟨rfl, y1, b14⟩
  have s14 := b14.size
  have ow_14 := ow_13.below b14 (by omega)
  clear ow_13
  have x0_14 := x0_13.below b14 (by omega)
  clear x0_13
  have x1_14 := x1_13.below b14 (by omega)
  clear x1_13
  have og_14 := og_13.below b14 (by omega)
  clear og_13
  have kn14 := kn13.next b14
  clear kn13 b14
  clear d0 d1 d2 d3
  obtain ⟨d0, d1, d2, d3, _⟩ := kn14.all
  go_wp2_with fail
  with_reducible refine (eqUpdateS_same _ _ _ _ _ _ _ _ _ _ (x1_14.rd hl1.out) (y1.rd hl1.out) (by omega) (by omega) hb1).mono ?_
  rintro e w15 ⟨rfl, b15⟩
  have s15 := b15.size
  have ow_15 := ow_14.below b15 (by omega)
  clear ow_14
  have x0_15 := x0_14.below b15 (by omega)
  clear x0_14
  have x1_15 := x1_14.below b15 (by omega)
  clear x1_14
  have og_15 := og_14.below b15 (by omega)
  clear og_14
  have y1_15 := y1.below b15 (by omega)
  clear y1
  have kn15 := kn14.next b15
  clear kn14 b15
  clear d0 d1 d2 d3
  obtain ⟨d0, d1, d2, d3, _⟩ := kn15.all
  clear y1_15
  go_wp2_with fail
  with_reducible refine (markDatabase_any _ _ _ _ _ _ _ _ x0_15 hb0 hrs0.out (by omega) (by omega)).mono ?_
  rintro e w16 ⟨rfl, x0m, b16⟩
  have s16 := b16.size
  have ow_16 := ow_15.chg b16 (by omega)
  clear ow_15
  have x1_16 := x1_15.chg b16 (by omega)
  clear x1_15
  have og_16 := og_15.chg b16 (by omega)
  clear og_15
  have kn16 := kn15.chg b16 (by omega) (by simp only [List.forall_mem_cons]; simp; try omega)
  clear kn15 b16
  clear d0 d1 d2 d3
  obtain ⟨d0, d1, d2, d3, _⟩ := kn16.all
  clear x0m
  have kn17 : Kn w [(w.heap.size, 0, .slice a0 len0 cap0), (w5.heap.size, 0, .slice Aw rq.length cw), (w10.heap.size, 0, .slice Ag rq.length cg)] w16 := kn16.sub (by simp)
  clear kn16
  clear d0 d1 d2 d3
  obtain ⟨d0, d1, d2, _⟩ := kn17.all
  go_wp2_with fail
  with_reducible refine (markUpdateS_any _ _ _ _ _ _ _ _ x1_16 h1 hrs1.out (by omega) (by omega)).mono ?_
  rintro e w18 ⟨rfl, x1m, b18⟩
  have s18 := b18.size
  have ow_18 := ow_16.chg b18 (by omega)
  clear ow_16
  have og_18 := og_16.chg b18 (by omega)
  clear og_16
  have kn18 := kn17.chg b18 (by omega) (by simp only [List.forall_mem_cons]; simp; try omega)
  clear kn17 b18
  clear d0 d1 d2
  obtain ⟨d0, d1, d2, _⟩ := kn18.all
  clear x1m
  have qn : ¬ (1 + ((mrkT z0 : Nat) : Int) + ((mrkU z1 : Nat) : Int) < 0) := by omega
  go_wp2_with fail
  with_reducible refine (eqDatabase_same _ _ _ _ _ _ _ _ _ _ (og_18.rd rfl) (ow_18.rd rfl) (by omega) (by omega) hbq).mono ?_
  rintro e w19 ⟨rfl, b19⟩
  have s19 := b19.size
  have ow_19 := ow_18.below b19 (by omega)
  clear ow_18
  have og_19 := og_18.below b19 (by omega)
  clear og_18
  have kn19 := kn18.next b19
  clear kn18 b19
  clear d0 d1 d2
  obtain ⟨d0, d1, d2, _⟩ := kn19.all
  clear qn
  go_wp2_with fail
  with_reducible refine (markDatabase_any _ _ _ _ _ _ _ _ og_19 hbq hrsq.out (by omega) (by omega)).mono ?_
  rintro e w20 ⟨rfl, ogm, b20⟩
  have s20 := b20.size
  have ow_20 := ow_19.chg b20 (by omega)
  clear ow_19
  have kn20 := kn19.chg b20 (by omega) (by simp only [List.forall_mem_cons]; simp; try omega)
  clear kn19 b20
  clear d0 d1 d2
  obtain ⟨d0, d1, d2, _⟩ := kn20.all
  have qn : ¬ (1 + ((mrkT rq : Nat) : Int) < 0) := by omega
  have qm : (1 + ((mrkT rq : Nat) : Int) != 1 + ((mrkT rq : Nat) : Int)) = false := by simp
  go_wp2_with fail
  with_reducible refine (heldDatabase_any _ _ _ _ _ _ _ (ogm.rd (cntT_length _ _)) (by omega) hbq hrsq.out (by omega) (by omega)).mono ?_
  rintro e w21 ⟨rfl, b21⟩
  have s21 := b21.size
  have ow_21 := ow_20.below b21 (by omega)
  clear ow_20
  have og_21 := ogm.below b21 (by omega)
  clear ogm
  have kn21 := kn20.next b21
  clear kn20 b21
  clear d0 d1 d2
  obtain ⟨d0, d1, d2, _⟩ := kn21.all
  go_wp2_with fail
  with_reducible refine (toDatabase_any a0 len0 cap0 w.heap.size z0 w21 (r0.belowB kn21.bel (Nat.le_refl _)) kn21.bel.size h0 hdb0.out).mono ?_
  rintro e w22 ⟨Au0, cu0, rfl, u0, b22⟩
  have s22 := b22.size
  have ow_22 := ow_21.below b22 (by omega)
  clear ow_21
  have og_22 := og_21.below b22 (by omega)
  clear og_21
  have kn22 := kn21.next b22
  clear kn21 b22
  clear d0 d1 d2
  obtain ⟨d0, d1, d2, _⟩ := kn22.all
  go_wp2_with fail
  with_reducible refine (toUpdateS_any a1 len1 cap1 w.heap.size z1 w22 (r1.belowB kn22.bel (Nat.le_refl _)) kn22.bel.size h1 hrs1.out).mono ?_
  rintro e w23 ⟨rfl, u1, b23⟩
  have s23 := b23.size
  have ow_23 := ow_22.below b23 (by omega)
  clear ow_22
  have og_23 := og_22.below b23 (by omega)
  clear og_22
  have u0_23 := u0.below b23 (by omega)
  clear u0
  have kn23 := kn22.next b23
  clear kn22 b23
  clear d0 d1 d2
  obtain ⟨d0, d1, d2, _⟩ := kn23.all
  go_wp2_with fail
  with_reducible refine (KI.out _ _ _ _ _ (((u0_23.rd rfl).more (by omega))) (((u1.rd hl1.out).more (by omega)))).mono ?_
  rintro e w24 ⟨Ah, ch, rfl, oh, b24⟩
  have s24 := b24.size
  have ow_24 := ow_23.below b24 (by omega)
  clear ow_23
  have og_24 := og_23.below b24 (by omega)
  clear og_23
  have u0_24 := u0_23.below b24 (by omega)
  clear u0_23
  have u1_24 := u1.below b24 (by omega)
  clear u1
  have kn24 := kn23.next b24
  clear kn23 b24
  clear d0 d1 d2
  obtain ⟨d0, d1, d2, _⟩ := kn24.all
  clear u0_24
  clear u1_24
  have ne0 : w.heap.size < w24.heap.size := by omega
  have ne1 : w5.heap.size < w24.heap.size := by omega
  have ne2 : w10.heap.size < w24.heap.size := by omega
  go_wp2_with fail
  clear ne0 ne1 ne2
  have kn25 : Kn w [(w.heap.size, 0, .slice a0 len0 cap0), (w5.heap.size, 0, .slice Aw rq.length cw), (w10.heap.size, 0, .slice Ag rq.length cg), (w24.heap.size, 0, .slice Ah rq.length ch)] (w24.alloc (.cells #[.slice Ah rq.length ch] 29)) := kn24.box1 (.slice Ah rq.length ch) 29
  have s25 : w24.heap.size + 1 ≤ (w24.alloc (.cells #[.slice Ah rq.length ch] 29)).heap.size := by simp
  have ow_25 := ow_24.below ((Below.refl _ _).alloc (Nat.le_refl _) (.cells #[.slice Ah rq.length ch] 29)) (by omega)
  clear ow_24
  have og_25 := og_24.below ((Below.refl _ _).alloc (Nat.le_refl _) (.cells #[.slice Ah rq.length ch] 29)) (by omega)
  clear og_24
  have oh_25 := oh.below ((Below.refl _ _).alloc (Nat.le_refl _) (.cells #[.slice Ah rq.length ch] 29)) (by omega)
  clear oh
  clear kn24
  clear d0 d1 d2
  generalize w24.alloc (.cells #[.slice Ah rq.length ch] 29) = w25 at kn25 s25 ow_25 og_25 oh_25 ⊢
  obtain ⟨d0, d1, d2, d3, _⟩ := kn25.all
  go_wp2_with fail
  with_reducible refine (eqDatabase_same _ _ _ _ _ _ _ _ _ _ (oh_25.rd rfl) (ow_25.rd rfl) (by omega) (by omega) hbq).mono ?_
  rintro e w26 ⟨rfl, b26⟩
  have s26 := b26.size
  have ow_26 := ow_25.below b26 (by omega)
  clear ow_25
  have og_26 := og_25.below b26 (by omega)
  clear og_25
  have oh_26 := oh_25.below b26 (by omega)
  clear oh_25
  have kn26 := kn25.next b26
  clear kn25 b26
  clear d0 d1 d2 d3
  obtain ⟨d0, d1, d2, d3, _⟩ := kn26.all
  clear oh_26
  clear ow_26
  go_wp2_with fail
  with_reducible refine (heldDatabase_any _ _ _ _ _ _ _ (og_26.rd (cntT_length _ _)) (by omega) hbq hrsq.out (by omega) (by omega)).mono ?_
  rintro e w27 ⟨rfl, b27⟩
  have s27 := b27.size
  have og_27 := og_26.below b27 (by omega)
  clear og_26
  have kn27 := kn26.next b27
  clear kn26 b27
  clear d0 d1 d2 d3
  obtain ⟨d0, d1, d2, d3, _⟩ := kn27.all
  go_wp2_with fail
  go_ret
  exact ⟨rfl, kn27.bel⟩
end Go.Proofs.Ytimlecfneibjlaa
