/- The walk of the law on ApplyUpdate. No condition. -/
import Derived.Test.YtimlecfneibjlaaUApp
import Derived.Test.YtimlecfneibjlaaCutD
import Derived.Test.YtimlecfneibjlaaDbHeld
import Derived.Deep.RegionHeld3
import Derived.Deep.DeepCutAuto
namespace Go.Proofs.Ytimlecfneibjlaa
open Go.RowKit Go.Deep
set_option maxRecDepth 100000 in
set_option maxHeartbeats 4000000 in
theorem applyUpdate_walk (a0 : Option Addr) (len0 cap0 : Nat) (z0 : List Tab) (nm1 : ByteArray) (in1 : Bool) (a1 : Option Addr) (len1 cap1 : Nat) (z1 : List Int) (w : World) (ll0 : len0 ≤ maxLen) (r0 : RdT w w.heap.size a0 len0 z0) (p1 : nm1.size ≤ maxLen) (ll1 : len1 ≤ maxLen) (r1 : RdI w w.heap.size a1 len1 z1) :
    Calls Try.prog 14 #[.agg #[.slice a0 len0 cap0], .agg #[.string nm1, .bool in1, .slice a1 len1 cap1]] w fun e w' => e = .returned (.bool true) ∧ Below w.heap.size w w' := by
  have kn0 : Kn w [(w.heap.size, 0, .slice a0 len0 cap0), (w.heap.size + 1, 0, .string nm1), (w.heap.size + 1, 1, .bool in1), (w.heap.size + 1, 2, .slice a1 len1 cap1)] ((w.alloc (.cells #[.slice a0 len0 cap0] 24)).alloc (.cells #[.string nm1, .bool in1, .slice a1 len1 cap1] 61)) := by simpa using (((Kn.start w).box1 (.slice a0 len0 cap0) 24).box3 (.string nm1) (.bool in1) (.slice a1 len1 cap1) 61)
  unfold maxLen at ll0
  unfold maxLen at ll1
  have pp1 := p1
  unfold maxLen at pp1
  go_enter Try.func14, Try.ntmps14
  go_wp2_with fail
  have s0 : w.heap.size + 2 ≤ ((w.alloc (.cells #[.slice a0 len0 cap0] 24)).alloc (.cells #[.string nm1, .bool in1, .slice a1 len1 cap1] 61)).heap.size := by simp
  generalize (w.alloc (.cells #[.slice a0 len0 cap0] 24)).alloc (.cells #[.string nm1, .bool in1, .slice a1 len1 cap1] 61) = w0 at kn0 s0 ⊢
  with_reducible refine (szDatabase_any a0 len0 cap0 w.heap.size _ z0 w0 (r0.belowB kn0.bel (Nat.le_refl _)) kn0.bel.size (by omega) (by omega) (by omega)).mono ?_
  rintro e w1 ⟨sa, rfl, hsa, b1⟩
  have s1 := b1.size
  have kn1 := kn0.next b1
  clear kn0 b1
  obtain ⟨d0, d1, d2, d3, _⟩ := kn1.all
  rcases hsa with rfl | ⟨hsa, hza⟩
  · go_wp2_with fail
    go_ret
    exact ⟨rfl, kn1.bel⟩
  have qsa : ¬ sa < 0 := by omega
  have qta : sa ≤ 1048576 := by omega
  have HZa := Lib.hid hza
  clear hza
  go_wp2_with fail
  with_reducible refine (szUpdate_any nm1 in1 a1 len1 cap1 _ w1 p1 hsa qta (by omega)).mono ?_
  rintro e w2 ⟨sb, rfl, hsb, b2⟩
  have s2 := b2.size
  have kn2 := kn1.next b2
  clear kn1 b2
  clear d0 d1 d2 d3
  obtain ⟨d0, d1, d2, d3, _⟩ := kn2.all
  rcases hsb with rfl | ⟨hsb, hzb⟩
  · go_wp2_with fail
    go_ret
    exact ⟨rfl, kn2.bel⟩
  have qsb : ¬ sb < 0 := by omega
  have qtb : sb ≤ 1048576 := by omega
  have HZb := Lib.hid hzb
  clear hzb
  have hza := HZa.out
  have hzb := HZb.out
  have h0 : len0 ≤ 1048576 := by omega
  have hdb0 : Hid (sumT z0 ≤ 1048576) := by show _ ≤ _; omega
  have h1 : len1 ≤ 1048576 := by omega
  clear hza hzb HZa HZb
  have hl0 := Lib.hid r0.1
  have hb0 : z0.length ≤ 1048576 := by rw [hl0.out]; exact h0
  have hrs0 : Hid (∀ t ∈ z0, t.rs.length ≤ 1048576) := fun t ht => (sumT_small hdb0.out t ht).1
  have hm0 : mrkT z0 ≤ 4194304 := by have := mrkT_le z0; have := hdb0.out; omega
  have hl1 := Lib.hid r1.1
  have hb1 : z1.length ≤ 1048576 := by rw [hl1.out]; exact h1
  obtain ⟨rq, okq, hRq⟩ : ∃ a b, appR z0 nm1 in1 z1 = (a, b) := ⟨_, _, rfl⟩
  have hbq : rq.length ≤ 1048576 ∧ sumT rq ≤ 1048576 := by have := appR_small (ts := z0) (nm := nm1) (ins := in1) (r := z1) hb0 hdb0.out; rw [hRq] at this; exact this
  obtain ⟨hbq, hsq⟩ := hbq
  have hrsq : Hid (∀ t ∈ rq, t.rs.length ≤ 1048576) := fun t ht => (sumT_small hsq t ht).1
  have hmq : mrkT rq ≤ 4194304 := by have := mrkT_le rq; omega
  have KS : Hid (∀ A0 c0 A1 c1 W, RdT W W.heap.size A0 z0.length z0 → RdI W W.heap.size A1 z1.length z1 → Calls Try.prog 56 #[.agg #[.slice A0 z0.length c0], .agg #[.string nm1, .bool in1, .slice A1 z1.length c1]] W (DbAns rq okq W)) := fun A0 c0 A1 c1 W h0 h1 => by have := spec_ApplyUpdate_any A0 _ c0 _ z0 nm1 in1 A1 _ c1 z1 W h0 (Nat.le_refl _) (by omega) hdb0.out h1 (by omega) p1; rw [hRq] at this; exact this
  have KI : Hid (∀ A0 c0 A1 c1 W, RdT W W.heap.size A0 z0.length z0 → RdI W W.heap.size A1 z1.length z1 → Calls Try.prog 57 #[.agg #[.slice A0 z0.length c0], .agg #[.string nm1, .bool in1, .slice A1 z1.length c1]] W (DbAns rq okq W)) := fun A0 c0 A1 c1 W h0 h1 => by have := impl_ApplyUpdate_any A0 _ c0 _ z0 nm1 in1 A1 _ c1 z1 W h0 (Nat.le_refl _) (by omega) hdb0.out h1 (by omega) p1; rw [hRq] at this; exact this
  clear hRq
  have KT0 : Hid (∀ W, Below w2.heap.size w2 W → Calls Try.prog 17 #[.agg #[.slice a0 len0 cap0]] W (DbNew z0 W)) := fun W b => toDatabase_any a0 len0 cap0 w.heap.size z0 W (r0.belowB (kn2.next b).bel (Nat.le_refl _)) (kn2.next b).bel.size h0 hdb0.out
  have KT1 : Hid (∀ W, Below w2.heap.size w2 W → Calls Try.prog 43 #[.agg #[.string nm1, .bool in1, .slice a1 len1 cap1]] W (UpdNew nm1 in1 z1 W)) := fun W b => toUpdate_any nm1 in1 a1 len1 cap1 w.heap.size z1 W (r1.belowB (kn2.next b).bel (Nat.le_refl _)) (kn2.next b).bel.size h1
  go_upto_region 8 with fail
  go_cut [6, 7] (fun p q wx => CutD w [(w.heap.size, 0, .slice a0 len0 cap0), (w.heap.size + 1, 0, .string nm1), (w.heap.size + 1, 1, .bool in1), (w.heap.size + 1, 2, .slice a1 len1 cap1)] w2 rq okq p q wx)
  case first =>
    have bz : Below w2.heap.size w2 w2.drew := (Below.refl _ _).drew
    go_region_held3 (fun W => W.cell? ⟨w.heap.size, 0, none⟩ = some (.slice a0 len0 cap0) ∧ W.cell? ⟨w.heap.size + 1, 0, none⟩ = some (.string nm1) ∧ W.cell? ⟨w.heap.size + 1, 1, none⟩ = some (.bool in1) ∧ W.cell? ⟨w.heap.size + 1, 2, none⟩ = some (.slice a1 len1 cap1) ∧ Below w2.heap.size w2 W)
      (first | assumption | exact Kn.allB kn2 (by assumption) | exact Kn.allB kn2 bel_ald | exact Kn.allB kn2 (bel_al bz) | exact Kn.allB kn2 (bel_cell bz hB.lo))
      (first | (go_at_call 17; ((with_reducible refine (KT0.out _ bz).mono ?_); rintro e w1 ⟨A', c', rfl, ho, b1⟩; (first | (revert hB; intro hB; obtain ⟨bo, hB, hBo, bz⟩ := box_kept bz hB b1) | (obtain ⟨bo, bz⟩ := box_none bz b1)); have rd0 := ho.rd rfl; clear ho b1)) | (go_at_call 17; ((with_reducible refine (KT0.out _ bel_ald).mono ?_); rintro e w1 ⟨A', c', rfl, ho, b1⟩; obtain ⟨bo, hB, hBo, bz⟩ := box_madeD b1; have rd0 := ho.rd rfl; clear ho b1)) | (go_at_call 43; ((with_reducible refine (KT1.out _ bz).mono ?_); rintro e w1 ⟨A', c', rfl, ho, b1⟩; (first | (revert hB; intro hB; obtain ⟨bo, hB, hBo, bz⟩ := box_kept bz hB b1) | (obtain ⟨bo, bz⟩ := box_none bz b1)); have rd1 := ho.rd rfl; have rd0 := rdT_next b1 rd0; clear ho b1)) | (go_at_call 43; ((with_reducible refine (KT1.out _ (bel_al bz)).mono ?_); rintro e w1 ⟨A', c', rfl, ho, b1⟩; obtain ⟨bo, hB, hBo, bz⟩ := box_made bz b1; have rd1 := ho.rd rfl; have rd0 := rdT_next b1 (rdT_al rd0); clear ho b1)) | (go_at_call 56; ((with_reducible refine (KS.out _ _ _ _ _ rd0 rd1).mono ?_); rintro e w1 ⟨Aw, cw, rfl, ow, b1⟩; (first | (revert hB; intro hB; obtain ⟨bo, hB, hBo, bz⟩ := box_kept bz hB b1) | (obtain ⟨bo, bz⟩ := box_none bz b1)); (first | (revert hB; intro hB; have cB := hB.cell; have fB := hB.frz) | skip))) | (go_at_call 56; ((with_reducible refine (KS.out _ _ _ _ _ (rdT_al rd0) (rdI_al rd1)).mono ?_); rintro e w1 ⟨Aw, cw, rfl, ow, b1⟩; obtain ⟨bo, hB, hBo, bz⟩ := box_made bz b1; have cB := hB.cell; have fB := hB.frz)))
    all_goals (go_wp2_with fail)
    all_goals (go_meet; first | exact CutD.of kn2 bo b1 ow | exact CutD.of2 kn2 bo b1 hB hBo ow)
  case rest =>
    generalize wc = w3 at hcut ⊢
    obtain ⟨Aw, cw, Bw, hiw, rfl, rfl, kx, ow, hiwB, Bwlt, b3⟩ := hcut
    have s3 := b3.size
    have kn3 : Kn w [(w.heap.size, 0, .slice a0 len0 cap0), (w.heap.size + 1, 0, .string nm1), (w.heap.size + 1, 1, .bool in1), (w.heap.size + 1, 2, .slice a1 len1 cap1), (Bw, 0, .slice Aw rq.length cw)] w3 := kx
    clear kn2 kx b3 KT0 KT1
    clear d0 d1 d2 d3
    obtain ⟨d0, d1, d2, d3, d4, _⟩ := kn3.all
    go_wp2_with fail
    with_reducible refine (toDatabase_any a0 len0 cap0 w.heap.size z0 w3 (r0.belowB kn3.bel (Nat.le_refl _)) kn3.bel.size h0 hdb0.out).mono ?_
    rintro e w4 ⟨Ax0, cx0, rfl, x0, b4⟩
    have s4 := b4.size
    have ow_4 := ow.below b4 (by omega)
    clear ow
    have kn4 := kn3.next b4
    clear kn3 b4
    clear d0 d1 d2 d3 d4
    obtain ⟨d0, d1, d2, d3, d4, _⟩ := kn4.all
    have ne0 : w.heap.size < w4.heap.size := by omega
    have ne1 : w.heap.size + 1 < w4.heap.size := by omega
    have ne2 : Bw < w4.heap.size := by omega
    go_wp2_with fail
    clear ne0 ne1 ne2
    have kn5 : Kn w [(w.heap.size, 0, .slice a0 len0 cap0), (w.heap.size + 1, 0, .string nm1), (w.heap.size + 1, 1, .bool in1), (w.heap.size + 1, 2, .slice a1 len1 cap1), (Bw, 0, .slice Aw rq.length cw), (w4.heap.size, 0, .slice Ax0 z0.length cx0)] (w4.alloc (.cells #[.slice Ax0 z0.length cx0] 29)) := kn4.box1 (.slice Ax0 z0.length cx0) 29
    have s5 : w4.heap.size + 1 ≤ (w4.alloc (.cells #[.slice Ax0 z0.length cx0] 29)).heap.size := by simp
    have ow_5 := ow_4.below ((Below.refl _ _).alloc (Nat.le_refl _) (.cells #[.slice Ax0 z0.length cx0] 29)) (by omega)
    clear ow_4
    have x0_5 := x0.below ((Below.refl _ _).alloc (Nat.le_refl _) (.cells #[.slice Ax0 z0.length cx0] 29)) (by omega)
    clear x0
    clear kn4
    clear d0 d1 d2 d3 d4
    generalize w4.alloc (.cells #[.slice Ax0 z0.length cx0] 29) = w5 at kn5 s5 ow_5 x0_5 ⊢
    obtain ⟨d0, d1, d2, d3, d4, d5, _⟩ := kn5.all
    go_wp2_with fail
    with_reducible refine (toUpdate_any nm1 in1 a1 len1 cap1 w.heap.size z1 w5 (r1.belowB kn5.bel (Nat.le_refl _)) kn5.bel.size h1).mono ?_
    rintro e w6 ⟨Ax1, cx1, rfl, x1, b6⟩
    have s6 := b6.size
    have ow_6 := ow_5.below b6 (by omega)
    clear ow_5
    have x0_6 := x0_5.below b6 (by omega)
    clear x0_5
    have kn6 := kn5.next b6
    clear kn5 b6
    clear d0 d1 d2 d3 d4 d5
    obtain ⟨d0, d1, d2, d3, d4, d5, _⟩ := kn6.all
    have ne0 : w.heap.size < w6.heap.size := by omega
    have ne1 : w.heap.size + 1 < w6.heap.size := by omega
    have ne2 : Bw < w6.heap.size := by omega
    have ne3 : w4.heap.size < w6.heap.size := by omega
    go_wp2_with fail
    clear ne0 ne1 ne2 ne3
    have kn7 : Kn w [(w.heap.size, 0, .slice a0 len0 cap0), (w.heap.size + 1, 0, .string nm1), (w.heap.size + 1, 1, .bool in1), (w.heap.size + 1, 2, .slice a1 len1 cap1), (Bw, 0, .slice Aw rq.length cw), (w4.heap.size, 0, .slice Ax0 z0.length cx0), (w6.heap.size, 0, .string nm1), (w6.heap.size, 1, .bool in1), (w6.heap.size, 2, .slice Ax1 z1.length cx1)] (w6.alloc (.cells #[.string nm1, .bool in1, .slice Ax1 z1.length cx1] 64)) := kn6.box3 (.string nm1) (.bool in1) (.slice Ax1 z1.length cx1) 64
    have s7 : w6.heap.size + 1 ≤ (w6.alloc (.cells #[.string nm1, .bool in1, .slice Ax1 z1.length cx1] 64)).heap.size := by simp
    have ow_7 := ow_6.below ((Below.refl _ _).alloc (Nat.le_refl _) (.cells #[.string nm1, .bool in1, .slice Ax1 z1.length cx1] 64)) (by omega)
    clear ow_6
    have x0_7 := x0_6.below ((Below.refl _ _).alloc (Nat.le_refl _) (.cells #[.string nm1, .bool in1, .slice Ax1 z1.length cx1] 64)) (by omega)
    clear x0_6
    have x1_7 := x1.below ((Below.refl _ _).alloc (Nat.le_refl _) (.cells #[.string nm1, .bool in1, .slice Ax1 z1.length cx1] 64)) (by omega)
    clear x1
    clear kn6
    clear d0 d1 d2 d3 d4 d5
    generalize w6.alloc (.cells #[.string nm1, .bool in1, .slice Ax1 z1.length cx1] 64) = w7 at kn7 s7 ow_7 x0_7 x1_7 ⊢
    obtain ⟨d0, d1, d2, d3, d4, d5, d6, d7, d8, _⟩ := kn7.all
    go_wp2_with fail
    with_reducible refine (KI.out _ _ _ _ _ (((x0_7.rd rfl).more (by omega))) (((x1_7.rd rfl).more (by omega)))).mono ?_
    rintro e w8 ⟨Ag, cg, rfl, og, b8⟩
    have s8 := b8.size
    have ow_8 := ow_7.below b8 (by omega)
    clear ow_7
    have x0_8 := x0_7.below b8 (by omega)
    clear x0_7
    have x1_8 := x1_7.below b8 (by omega)
    clear x1_7
    have kn8 := kn7.next b8
    clear kn7 b8
    clear d0 d1 d2 d3 d4 d5 d6 d7 d8
    obtain ⟨d0, d1, d2, d3, d4, d5, d6, d7, d8, _⟩ := kn8.all
    have ne0 : w.heap.size < w8.heap.size := by omega
    have ne1 : w.heap.size + 1 < w8.heap.size := by omega
    have ne2 : Bw < w8.heap.size := by omega
    have ne3 : w4.heap.size < w8.heap.size := by omega
    have ne4 : w6.heap.size < w8.heap.size := by omega
    go_wp2_with fail
    clear ne0 ne1 ne2 ne3 ne4
    have kn9 : Kn w [(w.heap.size, 0, .slice a0 len0 cap0), (w.heap.size + 1, 0, .string nm1), (w.heap.size + 1, 1, .bool in1), (w.heap.size + 1, 2, .slice a1 len1 cap1), (Bw, 0, .slice Aw rq.length cw), (w4.heap.size, 0, .slice Ax0 z0.length cx0), (w6.heap.size, 0, .string nm1), (w6.heap.size, 1, .bool in1), (w6.heap.size, 2, .slice Ax1 z1.length cx1), (w8.heap.size, 0, .slice Ag rq.length cg)] (w8.alloc (.cells #[.slice Ag rq.length cg] 29)) := kn8.box1 (.slice Ag rq.length cg) 29
    have s9 : w8.heap.size + 1 ≤ (w8.alloc (.cells #[.slice Ag rq.length cg] 29)).heap.size := by simp
    have ow_9 := ow_8.below ((Below.refl _ _).alloc (Nat.le_refl _) (.cells #[.slice Ag rq.length cg] 29)) (by omega)
    clear ow_8
    have x0_9 := x0_8.below ((Below.refl _ _).alloc (Nat.le_refl _) (.cells #[.slice Ag rq.length cg] 29)) (by omega)
    clear x0_8
    have x1_9 := x1_8.below ((Below.refl _ _).alloc (Nat.le_refl _) (.cells #[.slice Ag rq.length cg] 29)) (by omega)
    clear x1_8
    have og_9 := og.below ((Below.refl _ _).alloc (Nat.le_refl _) (.cells #[.slice Ag rq.length cg] 29)) (by omega)
    clear og
    clear kn8
    clear d0 d1 d2 d3 d4 d5 d6 d7 d8
    generalize w8.alloc (.cells #[.slice Ag rq.length cg] 29) = w9 at kn9 s9 ow_9 x0_9 x1_9 og_9 ⊢
    obtain ⟨d0, d1, d2, d3, d4, d5, d6, d7, d8, d9, _⟩ := kn9.all
    have qk : (okq != okq) = false := by simp
    go_wp2_with fail
    with_reducible refine (eqDatabase_same _ _ _ _ _ _ _ _ _ _ (og_9.rd rfl) (ow_9.rd rfl) (by omega) (by omega) hbq).mono ?_
    rintro e w10 ⟨rfl, b10⟩
    have s10 := b10.size
    have ow_10 := ow_9.below b10 (by omega)
    clear ow_9
    have x0_10 := x0_9.below b10 (by omega)
    clear x0_9
    have x1_10 := x1_9.below b10 (by omega)
    clear x1_9
    have og_10 := og_9.below b10 (by omega)
    clear og_9
    have kn10 := kn9.next b10
    clear kn9 b10
    clear d0 d1 d2 d3 d4 d5 d6 d7 d8 d9
    obtain ⟨d0, d1, d2, d3, d4, d5, d6, d7, d8, d9, _⟩ := kn10.all
    go_wp2_with fail
    have KT : Hid (∀ W, Below w10.heap.size w10 W → Calls Try.prog 17 #[.agg #[.slice a0 len0 cap0]] W (DbNew z0 W)) := fun W b => toDatabase_any a0 len0 cap0 w.heap.size z0 W (r0.belowB (kn10.next b).bel (Nat.le_refl _)) (kn10.next b).bel.size h0 hdb0.out
    have KE : Hid (∀ W A c', Below w10.heap.size w10 W → RdT W W.heap.size A z0.length z0 → Calls Try.prog 19 #[.agg #[.slice Ax0 z0.length cx0], .agg #[.slice A z0.length c']] W fun e w' => e = .returned (.bool true) ∧ Below W.heap.size W w') := fun W A c' b h => eqDatabase_same _ _ _ _ _ _ _ _ _ W ((x0_10.rd rfl).belowB b (by omega)) h (Nat.le_trans (by omega) b.size) (Nat.le_refl _) hb0
    go_wp2_with fail
    have bz : Below w10.heap.size w10 w10.drew := (Below.refl _ _).drew
    go_region_held3 (fun W => W.cell? ⟨w.heap.size, 0, none⟩ = some (.slice a0 len0 cap0) ∧ W.cell? ⟨w.heap.size + 1, 0, none⟩ = some (.string nm1) ∧ W.cell? ⟨w.heap.size + 1, 1, none⟩ = some (.bool in1) ∧ W.cell? ⟨w.heap.size + 1, 2, none⟩ = some (.slice a1 len1 cap1) ∧ W.cell? ⟨Bw, 0, none⟩ = some (.slice Aw rq.length cw) ∧ W.cell? ⟨w4.heap.size, 0, none⟩ = some (.slice Ax0 z0.length cx0) ∧ W.cell? ⟨w6.heap.size, 0, none⟩ = some (.string nm1) ∧ W.cell? ⟨w6.heap.size, 1, none⟩ = some (.bool in1) ∧ W.cell? ⟨w6.heap.size, 2, none⟩ = some (.slice Ax1 z1.length cx1) ∧ W.cell? ⟨w8.heap.size, 0, none⟩ = some (.slice Ag rq.length cg) ∧ Below w10.heap.size w10 W)
      (first | assumption | exact Kn.allB kn10 (by assumption))
      (first | (go_at_call 17; ((with_reducible refine (KT.out _ (by assumption)).mono ?_); rintro e w1 ⟨A', c', rfl, ho, b1⟩; have bz := bel_step (by assumption) b1; have rd := ho.rd rfl; clear ho)) | (go_at_call 19; ((with_reducible refine (KE.out _ _ _ (by assumption) (by assumption)).mono ?_); rintro e w11 ⟨rfl, b1⟩; have bz := bel_step (by assumption) b1)))
    have b11 := bz
    have s11 := b11.size
    have ow_11 := ow_10.below b11 (by omega)
    clear ow_10
    have x0_11 := x0_10.below b11 (by omega)
    clear x0_10
    have x1_11 := x1_10.below b11 (by omega)
    clear x1_10
    have og_11 := og_10.below b11 (by omega)
    clear og_10
    have kn11 := kn10.next b11
    clear kn10 b11
    clear d0 d1 d2 d3 d4 d5 d6 d7 d8 d9
    obtain ⟨d0, d1, d2, d3, d4, d5, d6, d7, d8, d9, _⟩ := kn11.all
    clear KT KE
    go_wp2_with fail
    have KT : Hid (∀ W, Below w11.heap.size w11 W → Calls Try.prog 43 #[.agg #[.string nm1, .bool in1, .slice a1 len1 cap1]] W (UpdNew nm1 in1 z1 W)) := fun W b => toUpdate_any nm1 in1 a1 len1 cap1 w.heap.size z1 W (r1.belowB (kn11.next b).bel (Nat.le_refl _)) (kn11.next b).bel.size h1
    have KE : Hid (∀ W A c', Below w11.heap.size w11 W → RdI W W.heap.size A z1.length z1 → Calls Try.prog 45 #[.agg #[.string nm1, .bool in1, .slice Ax1 z1.length cx1], .agg #[.string nm1, .bool in1, .slice A z1.length c']] W fun e w' => e = .returned (.bool true) ∧ Below W.heap.size W w') := fun W A c' b h => eqUpdate_same _ _ _ _ _ _ _ _ _ _ _ W ((x1_11.rd rfl).belowB b (by omega)) h (Nat.le_trans (by omega) b.size) (Nat.le_refl _) hb1
    go_wp2_with fail
    have bz : Below w11.heap.size w11 w11.drew := (Below.refl _ _).drew
    go_region_held3 (fun W => W.cell? ⟨w.heap.size, 0, none⟩ = some (.slice a0 len0 cap0) ∧ W.cell? ⟨w.heap.size + 1, 0, none⟩ = some (.string nm1) ∧ W.cell? ⟨w.heap.size + 1, 1, none⟩ = some (.bool in1) ∧ W.cell? ⟨w.heap.size + 1, 2, none⟩ = some (.slice a1 len1 cap1) ∧ W.cell? ⟨Bw, 0, none⟩ = some (.slice Aw rq.length cw) ∧ W.cell? ⟨w4.heap.size, 0, none⟩ = some (.slice Ax0 z0.length cx0) ∧ W.cell? ⟨w6.heap.size, 0, none⟩ = some (.string nm1) ∧ W.cell? ⟨w6.heap.size, 1, none⟩ = some (.bool in1) ∧ W.cell? ⟨w6.heap.size, 2, none⟩ = some (.slice Ax1 z1.length cx1) ∧ W.cell? ⟨w8.heap.size, 0, none⟩ = some (.slice Ag rq.length cg) ∧ Below w11.heap.size w11 W)
      (first | assumption | exact Kn.allB kn11 (by assumption))
      (first | (go_at_call 43; ((with_reducible refine (KT.out _ (by assumption)).mono ?_); rintro e w1 ⟨A', c', rfl, ho, b1⟩; have bz := bel_step (by assumption) b1; have rd := ho.rd rfl; clear ho)) | (go_at_call 45; ((with_reducible refine (KE.out _ _ _ (by assumption) (by assumption)).mono ?_); rintro e w12 ⟨rfl, b1⟩; have bz := bel_step (by assumption) b1)))
    have b12 := bz
    have s12 := b12.size
    have ow_12 := ow_11.below b12 (by omega)
    clear ow_11
    have x0_12 := x0_11.below b12 (by omega)
    clear x0_11
    have x1_12 := x1_11.below b12 (by omega)
    clear x1_11
    have og_12 := og_11.below b12 (by omega)
    clear og_11
    have kn12 := kn11.next b12
    clear kn11 b12
    clear d0 d1 d2 d3 d4 d5 d6 d7 d8 d9
    obtain ⟨d0, d1, d2, d3, d4, d5, d6, d7, d8, d9, _⟩ := kn12.all
    clear KT KE
    go_wp2_with fail
    with_reducible refine (markDatabase_any _ _ _ _ _ _ _ _ x0_12 hb0 hrs0.out (by omega) (by omega)).mono ?_
    rintro e w13 ⟨rfl, x0m, b13⟩
    have s13 := b13.size
    have ow_13 := ow_12.chg b13 (by omega)
    clear ow_12
    have x1_13 := x1_12.chg b13 (by omega)
    clear x1_12
    have og_13 := og_12.chg b13 (by omega)
    clear og_12
    have kn13 := kn12.chg b13 (by omega) (by simp only [List.forall_mem_cons]; simp; try omega)
    clear kn12 b13
    clear d0 d1 d2 d3 d4 d5 d6 d7 d8 d9
    obtain ⟨d0, d1, d2, d3, d4, d5, d6, d7, d8, d9, _⟩ := kn13.all
    clear x0m
    have kn14 : Kn w [(w.heap.size, 0, .slice a0 len0 cap0), (w.heap.size + 1, 0, .string nm1), (w.heap.size + 1, 1, .bool in1), (w.heap.size + 1, 2, .slice a1 len1 cap1), (Bw, 0, .slice Aw rq.length cw), (w6.heap.size, 0, .string nm1), (w6.heap.size, 1, .bool in1), (w6.heap.size, 2, .slice Ax1 z1.length cx1), (w8.heap.size, 0, .slice Ag rq.length cg)] w13 := kn13.sub (by simp)
    clear kn13
    clear d0 d1 d2 d3 d4 d5 d6 d7 d8 d9
    obtain ⟨d0, d1, d2, d3, d4, d5, d6, d7, d8, _⟩ := kn14.all
    go_wp2_with fail
    with_reducible refine (markUpdate_any _ _ _ _ _ _ _ _ _ _ x1_13 (by omega) (by omega) (by omega)).mono ?_
    rintro e w15 ⟨rfl, x1m, b15⟩
    have s15 := b15.size
    have ow_15 := ow_13.chg b15 (by omega)
    clear ow_13
    have og_15 := og_13.chg b15 (by omega)
    clear og_13
    have kn15 := kn14.chg b15 (by omega) (by simp only [List.forall_mem_cons]; simp; try omega)
    clear kn14 b15
    clear d0 d1 d2 d3 d4 d5 d6 d7 d8
    obtain ⟨d0, d1, d2, d3, d4, d5, d6, d7, d8, _⟩ := kn15.all
    clear x1m
    have kn16 : Kn w [(w.heap.size, 0, .slice a0 len0 cap0), (w.heap.size + 1, 0, .string nm1), (w.heap.size + 1, 1, .bool in1), (w.heap.size + 1, 2, .slice a1 len1 cap1), (Bw, 0, .slice Aw rq.length cw), (w8.heap.size, 0, .slice Ag rq.length cg)] w15 := kn15.sub (by simp)
    clear kn15
    clear d0 d1 d2 d3 d4 d5 d6 d7 d8
    obtain ⟨d0, d1, d2, d3, d4, d5, _⟩ := kn16.all
    have qn : ¬ (1 + ((mrkT z0 : Nat) : Int) + ((z1.length : Nat) : Int) < 0) := by omega
    go_wp2_with fail
    with_reducible refine (eqDatabase_same _ _ _ _ _ _ _ _ _ _ (og_15.rd rfl) (ow_15.rd rfl) (by omega) (by omega) hbq).mono ?_
    rintro e w17 ⟨rfl, b17⟩
    have s17 := b17.size
    have ow_17 := ow_15.below b17 (by omega)
    clear ow_15
    have og_17 := og_15.below b17 (by omega)
    clear og_15
    have kn17 := kn16.next b17
    clear kn16 b17
    clear d0 d1 d2 d3 d4 d5
    obtain ⟨d0, d1, d2, d3, d4, d5, _⟩ := kn17.all
    clear qn
    go_wp2_with fail
    with_reducible refine (markDatabase_any _ _ _ _ _ _ _ _ og_17 hbq hrsq.out (by omega) (by omega)).mono ?_
    rintro e w18 ⟨rfl, ogm, b18⟩
    have s18 := b18.size
    have ow_18 := ow_17.chg b18 (by omega)
    clear ow_17
    have kn18 := kn17.chg b18 (by omega) (by simp only [List.forall_mem_cons]; simp; try omega)
    clear kn17 b18
    clear d0 d1 d2 d3 d4 d5
    obtain ⟨d0, d1, d2, d3, d4, d5, _⟩ := kn18.all
    have qn : ¬ (1 + ((mrkT rq : Nat) : Int) < 0) := by omega
    have qm : (1 + ((mrkT rq : Nat) : Int) != 1 + ((mrkT rq : Nat) : Int)) = false := by simp
    go_wp2_with fail
    with_reducible refine (heldDatabase_any _ _ _ _ _ _ _ (ogm.rd (cntT_length _ _)) (by omega) hbq hrsq.out (by omega) (by omega)).mono ?_
    rintro e w19 ⟨rfl, b19⟩
    have s19 := b19.size
    have ow_19 := ow_18.below b19 (by omega)
    clear ow_18
    have og_19 := ogm.below b19 (by omega)
    clear ogm
    have kn19 := kn18.next b19
    clear kn18 b19
    clear d0 d1 d2 d3 d4 d5
    obtain ⟨d0, d1, d2, d3, d4, d5, _⟩ := kn19.all
    have KT0 : Hid (∀ W, Below w19.heap.size w19 W → Calls Try.prog 17 #[.agg #[.slice a0 len0 cap0]] W (DbNew z0 W)) := fun W b => toDatabase_any a0 len0 cap0 w.heap.size z0 W (r0.belowB (kn19.next b).bel (Nat.le_refl _)) (kn19.next b).bel.size h0 hdb0.out
    have KT1 : Hid (∀ W, Below w19.heap.size w19 W → Calls Try.prog 43 #[.agg #[.string nm1, .bool in1, .slice a1 len1 cap1]] W (UpdNew nm1 in1 z1 W)) := fun W b => toUpdate_any nm1 in1 a1 len1 cap1 w.heap.size z1 W (r1.belowB (kn19.next b).bel (Nat.le_refl _)) (kn19.next b).bel.size h1
    go_upto_region 31 with fail
    go_cut [15, 16] (fun p q wx => CutD w [(w.heap.size, 0, .slice a0 len0 cap0), (w.heap.size + 1, 0, .string nm1), (w.heap.size + 1, 1, .bool in1), (w.heap.size + 1, 2, .slice a1 len1 cap1), (Bw, 0, .slice Aw rq.length cw), (w8.heap.size, 0, .slice Ag rq.length cg)] w19 rq okq p q wx)
    case first =>
      have bz : Below w19.heap.size w19 w19.drew := (Below.refl _ _).drew
      go_region_held3 (fun W => W.cell? ⟨w.heap.size, 0, none⟩ = some (.slice a0 len0 cap0) ∧ W.cell? ⟨w.heap.size + 1, 0, none⟩ = some (.string nm1) ∧ W.cell? ⟨w.heap.size + 1, 1, none⟩ = some (.bool in1) ∧ W.cell? ⟨w.heap.size + 1, 2, none⟩ = some (.slice a1 len1 cap1) ∧ W.cell? ⟨Bw, 0, none⟩ = some (.slice Aw rq.length cw) ∧ W.cell? ⟨w8.heap.size, 0, none⟩ = some (.slice Ag rq.length cg) ∧ Below w19.heap.size w19 W)
        (first | assumption | exact Kn.allB kn19 (by assumption) | exact Kn.allB kn19 bel_ald | exact Kn.allB kn19 (bel_al bz) | exact Kn.allB kn19 (bel_cell bz hB.lo))
        (first | (go_at_call 17; ((with_reducible refine (KT0.out _ bz).mono ?_); rintro e w1 ⟨A', c', rfl, ho, b1⟩; (first | (revert hB; intro hB; obtain ⟨bo, hB, hBo, bz⟩ := box_kept bz hB b1) | (obtain ⟨bo, bz⟩ := box_none bz b1)); have rd0 := ho.rd rfl; clear ho b1)) | (go_at_call 17; ((with_reducible refine (KT0.out _ bel_ald).mono ?_); rintro e w1 ⟨A', c', rfl, ho, b1⟩; obtain ⟨bo, hB, hBo, bz⟩ := box_madeD b1; have rd0 := ho.rd rfl; clear ho b1)) | (go_at_call 43; ((with_reducible refine (KT1.out _ bz).mono ?_); rintro e w1 ⟨A', c', rfl, ho, b1⟩; (first | (revert hB; intro hB; obtain ⟨bo, hB, hBo, bz⟩ := box_kept bz hB b1) | (obtain ⟨bo, bz⟩ := box_none bz b1)); have rd1 := ho.rd rfl; have rd0 := rdT_next b1 rd0; clear ho b1)) | (go_at_call 43; ((with_reducible refine (KT1.out _ (bel_al bz)).mono ?_); rintro e w1 ⟨A', c', rfl, ho, b1⟩; obtain ⟨bo, hB, hBo, bz⟩ := box_made bz b1; have rd1 := ho.rd rfl; have rd0 := rdT_next b1 (rdT_al rd0); clear ho b1)) | (go_at_call 57; ((with_reducible refine (KI.out _ _ _ _ _ rd0 rd1).mono ?_); rintro e w1 ⟨Aw, cw, rfl, ow, b1⟩; (first | (revert hB; intro hB; obtain ⟨bo, hB, hBo, bz⟩ := box_kept bz hB b1) | (obtain ⟨bo, bz⟩ := box_none bz b1)); (first | (revert hB; intro hB; have cB := hB.cell; have fB := hB.frz) | skip))) | (go_at_call 57; ((with_reducible refine (KI.out _ _ _ _ _ (rdT_al rd0) (rdI_al rd1)).mono ?_); rintro e w1 ⟨Aw, cw, rfl, ow, b1⟩; obtain ⟨bo, hB, hBo, bz⟩ := box_made bz b1; have cB := hB.cell; have fB := hB.frz)))
      all_goals (go_wp2_with fail)
      all_goals (go_meet; first | exact CutD.of kn19 bo b1 ow | exact CutD.of2 kn19 bo b1 hB hBo ow)
    case rest =>
      generalize wc = w20 at hcut ⊢
      obtain ⟨Ah, ch, Bh, hih, rfl, rfl, kx, oh, hihB, Bhlt, b20⟩ := hcut
      have s20 := b20.size
      have ow_20 := ow_19.below b20 (by omega)
      clear ow_19
      have og_20 := og_19.below b20 (by omega)
      clear og_19
      have kn20 : Kn w [(w.heap.size, 0, .slice a0 len0 cap0), (w.heap.size + 1, 0, .string nm1), (w.heap.size + 1, 1, .bool in1), (w.heap.size + 1, 2, .slice a1 len1 cap1), (Bw, 0, .slice Aw rq.length cw), (w8.heap.size, 0, .slice Ag rq.length cg), (Bh, 0, .slice Ah rq.length ch)] w20 := kx
      clear kn19 kx b20 KT0 KT1
      clear d0 d1 d2 d3 d4 d5
      obtain ⟨d0, d1, d2, d3, d4, d5, d6, _⟩ := kn20.all
      go_wp2_with fail
      with_reducible refine (eqDatabase_same _ _ _ _ _ _ _ _ _ _ (oh.rd rfl) (ow_20.rd rfl) (by omega) (by omega) hbq).mono ?_
      rintro e w21 ⟨rfl, b21⟩
      have s21 := b21.size
      have ow_21 := ow_20.below b21 (by omega)
      clear ow_20
      have og_21 := og_20.below b21 (by omega)
      clear og_20
      have oh_21 := oh.below b21 (by omega)
      clear oh
      have kn21 := kn20.next b21
      clear kn20 b21
      clear d0 d1 d2 d3 d4 d5 d6
      obtain ⟨d0, d1, d2, d3, d4, d5, d6, _⟩ := kn21.all
      clear oh_21
      clear ow_21
      go_wp2_with fail
      with_reducible refine (heldDatabase_any _ _ _ _ _ _ _ (og_21.rd (cntT_length _ _)) (by omega) hbq hrsq.out (by omega) (by omega)).mono ?_
      rintro e w22 ⟨rfl, b22⟩
      have s22 := b22.size
      have og_22 := og_21.below b22 (by omega)
      clear og_21
      have kn22 := kn21.next b22
      clear kn21 b22
      clear d0 d1 d2 d3 d4 d5 d6
      obtain ⟨d0, d1, d2, d3, d4, d5, d6, _⟩ := kn22.all
      go_wp2_with fail
      go_ret
      exact ⟨rfl, kn22.bel⟩
end Go.Proofs.Ytimlecfneibjlaa
