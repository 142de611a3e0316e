/- The walk of the law on IsValidUpdate. No condition. -/
import Derived.Test.YtimlecfneibjlaaUVal
import Derived.Test.YtimlecfneibjlaaKn
import Derived.Test.YtimlecfneibjlaaDbHeld
import Derived.Deep.RegionHeld3
import Derived.Deep.DeepCutAuto
namespace Go.Proofs.Ytimlecfneibjlaa
open Go.RowKit Go.Deep
set_option maxRecDepth 100000 in
set_option maxHeartbeats 4000000 in
theorem isValidUpdate_walk (a0 : Option Addr) (len0 cap0 : Nat) (z0 : List Tab) (nm1 : ByteArray) (in1 : Bool) (a1 : Option Addr) (len1 cap1 : Nat) (z1 : List Int) (w : World) (ll0 : len0 ≤ maxLen) (r0 : RdT w w.heap.size a0 len0 z0) (p1 : nm1.size ≤ maxLen) (ll1 : len1 ≤ maxLen) (r1 : RdI w w.heap.size a1 len1 z1) :
    Calls Try.prog 13 #[.agg #[.slice a0 len0 cap0], .agg #[.string nm1, .bool in1, .slice a1 len1 cap1]] w fun e w' => e = .returned (.bool true) ∧ Below w.heap.size w w' := by
  have kn0 : Kn w [(w.heap.size, 0, .slice a0 len0 cap0), (w.heap.size + 1, 0, .string nm1), (w.heap.size + 1, 1, .bool in1), (w.heap.size + 1, 2, .slice a1 len1 cap1)] ((w.alloc (.cells #[.slice a0 len0 cap0] 24)).alloc (.cells #[.string nm1, .bool in1, .slice a1 len1 cap1] 61)) := by simpa using (((Kn.start w).box1 (.slice a0 len0 cap0) 24).box3 (.string nm1) (.bool in1) (.slice a1 len1 cap1) 61)
  unfold maxLen at ll0
  unfold maxLen at ll1
  have pp1 := p1
  unfold maxLen at pp1
  go_enter Try.func13, Try.ntmps13
  go_wp2_with fail
  have s0 : w.heap.size + 2 ≤ ((w.alloc (.cells #[.slice a0 len0 cap0] 24)).alloc (.cells #[.string nm1, .bool in1, .slice a1 len1 cap1] 61)).heap.size := by simp
  generalize (w.alloc (.cells #[.slice a0 len0 cap0] 24)).alloc (.cells #[.string nm1, .bool in1, .slice a1 len1 cap1] 61) = w0 at kn0 s0 ⊢
  with_reducible refine (szDatabase_any a0 len0 cap0 w.heap.size _ z0 w0 (r0.belowB kn0.bel (Nat.le_refl _)) kn0.bel.size (by omega) (by omega) (by omega)).mono ?_
  rintro e w1 ⟨sa, rfl, hsa, b1⟩
  have s1 := b1.size
  have kn1 := kn0.next b1
  clear kn0 b1
  obtain ⟨d0, d1, d2, d3, _⟩ := kn1.all
  rcases hsa with rfl | ⟨hsa, hza⟩
  · go_wp2_with fail
    go_ret
    exact ⟨rfl, kn1.bel⟩
  have qsa : ¬ sa < 0 := by omega
  have qta : sa ≤ 1048576 := by omega
  have HZa := Lib.hid hza
  clear hza
  go_wp2_with fail
  with_reducible refine (szUpdate_any nm1 in1 a1 len1 cap1 _ w1 p1 hsa qta (by omega)).mono ?_
  rintro e w2 ⟨sb, rfl, hsb, b2⟩
  have s2 := b2.size
  have kn2 := kn1.next b2
  clear kn1 b2
  clear d0 d1 d2 d3
  obtain ⟨d0, d1, d2, d3, _⟩ := kn2.all
  rcases hsb with rfl | ⟨hsb, hzb⟩
  · go_wp2_with fail
    go_ret
    exact ⟨rfl, kn2.bel⟩
  have qsb : ¬ sb < 0 := by omega
  have qtb : sb ≤ 1048576 := by omega
  have HZb := Lib.hid hzb
  clear hzb
  have hza := HZa.out
  have hzb := HZb.out
  have h0 : len0 ≤ 1048576 := by omega
  have hdb0 : Hid (sumT z0 ≤ 1048576) := by show _ ≤ _; omega
  have h1 : len1 ≤ 1048576 := by omega
  clear hza hzb HZa HZb
  have hl0 := Lib.hid r0.1
  have hb0 : z0.length ≤ 1048576 := by rw [hl0.out]; exact h0
  have hrs0 : Hid (∀ t ∈ z0, t.rs.length ≤ 1048576) := fun t ht => (sumT_small hdb0.out t ht).1
  have hm0 : mrkT z0 ≤ 4194304 := by have := mrkT_le z0; have := hdb0.out; omega
  have hl1 := Lib.hid r1.1
  have hb1 : z1.length ≤ 1048576 := by rw [hl1.out]; exact h1
  have h9 : z0.length ≤ 1048576 ∧ z1.length ≤ 1048576 := by omega
  have KS : Hid (∀ A c A' c' W, RdT W W.heap.size A z0.length z0 → RdI W W.heap.size A' z1.length z1 → Calls Try.prog 54 #[.agg #[.slice A z0.length c], .agg #[.string nm1, .bool in1, .slice A' z1.length c']] W fun e w' => e = .returned (.bool ((appR z0 nm1 in1 z1).2)) ∧ Below W.heap.size W w') := fun A c A' c' W h h' => spec_IsValidUpdate_any A _ c _ z0 nm1 in1 A' _ c' z1 W h (Nat.le_refl _) h9.1 hdb0.out h' h9.2 p1
  have KI : Hid (∀ A c A' c' W, RdT W W.heap.size A z0.length z0 → RdI W W.heap.size A' z1.length z1 → Calls Try.prog 55 #[.agg #[.slice A z0.length c], .agg #[.string nm1, .bool in1, .slice A' z1.length c']] W fun e w' => e = .returned (.bool ((appR z0 nm1 in1 z1).2)) ∧ Below W.heap.size W w') := fun A c A' c' W h h' => impl_IsValidUpdate_any A _ c _ z0 nm1 in1 A' _ c' z1 W h (Nat.le_refl _) h9.1 hdb0.out h' h9.2 p1
  clear h9
  generalize ((appR z0 nm1 in1 z1).2) = bq at KS KI
  have qq : (bq != bq) = false := by simp
  have KT0 : Hid (∀ W, Below w2.heap.size w2 W → Calls Try.prog 17 #[.agg #[.slice a0 len0 cap0]] W (DbNew z0 W)) := fun W b => toDatabase_any a0 len0 cap0 w.heap.size z0 W (r0.belowB (kn2.next b).bel (Nat.le_refl _)) (kn2.next b).bel.size h0 hdb0.out
  have KT1 : Hid (∀ W, Below w2.heap.size w2 W → Calls Try.prog 43 #[.agg #[.string nm1, .bool in1, .slice a1 len1 cap1]] W (UpdNew nm1 in1 z1 W)) := fun W b => toUpdate_any nm1 in1 a1 len1 cap1 w.heap.size z1 W (r1.belowB (kn2.next b).bel (Nat.le_refl _)) (kn2.next b).bel.size h1
  go_upto_region 8 with fail
  go_cut [6] (fun q wx => q = .bool bq ∧ Below w2.heap.size w2 wx)
  case first =>
    have bz : Below w2.heap.size w2 w2.drew := (Below.refl _ _).drew
    go_region_held3 (fun W => W.cell? ⟨w.heap.size, 0, none⟩ = some (.slice a0 len0 cap0) ∧ W.cell? ⟨w.heap.size + 1, 0, none⟩ = some (.string nm1) ∧ W.cell? ⟨w.heap.size + 1, 1, none⟩ = some (.bool in1) ∧ W.cell? ⟨w.heap.size + 1, 2, none⟩ = some (.slice a1 len1 cap1) ∧ Below w2.heap.size w2 W)
      (first | assumption | exact Kn.allB kn2 (by assumption))
      (first | (go_at_call 17; ((with_reducible refine (KT0.out _ (by assumption)).mono ?_); rintro e w1 ⟨A', c', rfl, ho, b1⟩; have bz := bel_step (by assumption) b1; have rd := ho.rd rfl; (first | (have rd2 := rdI_next b1 (by assumption)) | skip); clear ho)) | (go_at_call 43; ((with_reducible refine (KT1.out _ (by assumption)).mono ?_); rintro e w1 ⟨A', c', rfl, ho, b1⟩; have bz := bel_step (by assumption) b1; have rd := ho.rd rfl; (first | (have rd2 := rdT_next b1 (by assumption)) | skip); clear ho)) | (go_at_call 54; ((with_reducible refine (KS.out _ _ _ _ _ (by assumption) (by assumption)).mono ?_); rintro e w1 ⟨rfl, b1⟩; have bz := bel_step (by assumption) b1)))
    all_goals (go_wp2_with fail)
    all_goals (go_meet; exact ⟨rfl, by assumption⟩)
  case rest =>
    generalize wc = w3 at hcut ⊢
    obtain ⟨rfl, b3⟩ := hcut
    have s3 := b3.size
    have kn3 := kn2.next b3
    clear kn2 b3
    clear d0 d1 d2 d3
    obtain ⟨d0, d1, d2, d3, _⟩ := kn3.all
    clear KT0 KT1
    go_wp2_with fail
    with_reducible refine (toDatabase_any a0 len0 cap0 w.heap.size z0 w3 (r0.belowB kn3.bel (Nat.le_refl _)) kn3.bel.size h0 hdb0.out).mono ?_
    rintro e w4 ⟨Ax0, cx0, rfl, x0, b4⟩
    have s4 := b4.size
    have kn4 := kn3.next b4
    clear kn3 b4
    clear d0 d1 d2 d3
    obtain ⟨d0, d1, d2, d3, _⟩ := kn4.all
    have ne0 : w.heap.size < w4.heap.size := by omega
    have ne1 : w.heap.size + 1 < w4.heap.size := by omega
    go_wp2_with fail
    clear ne0 ne1
    have kn5 : Kn w [(w.heap.size, 0, .slice a0 len0 cap0), (w.heap.size + 1, 0, .string nm1), (w.heap.size + 1, 1, .bool in1), (w.heap.size + 1, 2, .slice a1 len1 cap1), (w4.heap.size, 0, .slice Ax0 z0.length cx0)] (w4.alloc (.cells #[.slice Ax0 z0.length cx0] 29)) := kn4.box1 (.slice Ax0 z0.length cx0) 29
    have s5 : w4.heap.size + 1 ≤ (w4.alloc (.cells #[.slice Ax0 z0.length cx0] 29)).heap.size := by simp
    have x0_5 := x0.below ((Below.refl _ _).alloc (Nat.le_refl _) (.cells #[.slice Ax0 z0.length cx0] 29)) (by omega)
    clear x0
    clear kn4
    clear d0 d1 d2 d3
    generalize w4.alloc (.cells #[.slice Ax0 z0.length cx0] 29) = w5 at kn5 s5 x0_5 ⊢
    obtain ⟨d0, d1, d2, d3, d4, _⟩ := kn5.all
    go_wp2_with fail
    with_reducible refine (toUpdate_any nm1 in1 a1 len1 cap1 w.heap.size z1 w5 (r1.belowB kn5.bel (Nat.le_refl _)) kn5.bel.size h1).mono ?_
    rintro e w6 ⟨Ax1, cx1, rfl, x1, b6⟩
    have s6 := b6.size
    have x0_6 := x0_5.below b6 (by omega)
    clear x0_5
    have kn6 := kn5.next b6
    clear kn5 b6
    clear d0 d1 d2 d3 d4
    obtain ⟨d0, d1, d2, d3, d4, _⟩ := kn6.all
    have ne0 : w.heap.size < w6.heap.size := by omega
    have ne1 : w.heap.size + 1 < w6.heap.size := by omega
    have ne2 : w4.heap.size < w6.heap.size := by omega
    go_wp2_with fail
    clear ne0 ne1 ne2
    have kn7 : Kn w [(w.heap.size, 0, .slice a0 len0 cap0), (w.heap.size + 1, 0, .string nm1), (w.heap.size + 1, 1, .bool in1), (w.heap.size + 1, 2, .slice a1 len1 cap1), (w4.heap.size, 0, .slice Ax0 z0.length cx0), (w6.heap.size, 0, .string nm1), (w6.heap.size, 1, .bool in1), (w6.heap.size, 2, .slice Ax1 z1.length cx1)] (w6.alloc (.cells #[.string nm1, .bool in1, .slice Ax1 z1.length cx1] 64)) := kn6.box3 (.string nm1) (.bool in1) (.slice Ax1 z1.length cx1) 64
    have s7 : w6.heap.size + 1 ≤ (w6.alloc (.cells #[.string nm1, .bool in1, .slice Ax1 z1.length cx1] 64)).heap.size := by simp
    have x0_7 := x0_6.below ((Below.refl _ _).alloc (Nat.le_refl _) (.cells #[.string nm1, .bool in1, .slice Ax1 z1.length cx1] 64)) (by omega)
    clear x0_6
    have x1_7 := x1.below ((Below.refl _ _).alloc (Nat.le_refl _) (.cells #[.string nm1, .bool in1, .slice Ax1 z1.length cx1] 64)) (by omega)
    clear x1
    clear kn6
    clear d0 d1 d2 d3 d4
    generalize w6.alloc (.cells #[.string nm1, .bool in1, .slice Ax1 z1.length cx1] 64) = w7 at kn7 s7 x0_7 x1_7 ⊢
    obtain ⟨d0, d1, d2, d3, d4, d5, d6, d7, _⟩ := kn7.all
    go_wp2_with fail
    with_reducible refine (KI.out _ _ _ _ _ ((x0_7.rd rfl).more (by omega)) ((x1_7.rd rfl).more (by omega))).mono ?_
    rintro e w8 ⟨rfl, b8⟩
    have s8 := b8.size
    have x0_8 := x0_7.below b8 (by omega)
    clear x0_7
    have x1_8 := x1_7.below b8 (by omega)
    clear x1_7
    have kn8 := kn7.next b8
    clear kn7 b8
    clear d0 d1 d2 d3 d4 d5 d6 d7
    obtain ⟨d0, d1, d2, d3, d4, d5, d6, d7, _⟩ := kn8.all
    go_wp2_with fail
    have KT : Hid (∀ W, Below w8.heap.size w8 W → Calls Try.prog 17 #[.agg #[.slice a0 len0 cap0]] W (DbNew z0 W)) := fun W b => toDatabase_any a0 len0 cap0 w.heap.size z0 W (r0.belowB (kn8.next b).bel (Nat.le_refl _)) (kn8.next b).bel.size h0 hdb0.out
    have KE : Hid (∀ W A c', Below w8.heap.size w8 W → RdT W W.heap.size A z0.length z0 → Calls Try.prog 19 #[.agg #[.slice Ax0 z0.length cx0], .agg #[.slice A z0.length c']] W fun e w' => e = .returned (.bool true) ∧ Below W.heap.size W w') := fun W A c' b h => eqDatabase_same _ _ _ _ _ _ _ _ _ W ((x0_8.rd rfl).belowB b (by omega)) h (Nat.le_trans (by omega) b.size) (Nat.le_refl _) hb0
    go_wp2_with fail
    have bz : Below w8.heap.size w8 w8.drew := (Below.refl _ _).drew
    go_region_held3 (fun W => W.cell? ⟨w.heap.size, 0, none⟩ = some (.slice a0 len0 cap0) ∧ W.cell? ⟨w.heap.size + 1, 0, none⟩ = some (.string nm1) ∧ W.cell? ⟨w.heap.size + 1, 1, none⟩ = some (.bool in1) ∧ W.cell? ⟨w.heap.size + 1, 2, none⟩ = some (.slice a1 len1 cap1) ∧ W.cell? ⟨w4.heap.size, 0, none⟩ = some (.slice Ax0 z0.length cx0) ∧ W.cell? ⟨w6.heap.size, 0, none⟩ = some (.string nm1) ∧ W.cell? ⟨w6.heap.size, 1, none⟩ = some (.bool in1) ∧ W.cell? ⟨w6.heap.size, 2, none⟩ = some (.slice Ax1 z1.length cx1) ∧ Below w8.heap.size w8 W)
      (first | assumption | exact Kn.allB kn8 (by assumption))
      (first | (go_at_call 17; ((with_reducible refine (KT.out _ (by assumption)).mono ?_); rintro e w1 ⟨A', c', rfl, ho, b1⟩; have bz := bel_step (by assumption) b1; have rd := ho.rd rfl; clear ho)) | (go_at_call 19; ((with_reducible refine (KE.out _ _ _ (by assumption) (by assumption)).mono ?_); rintro e w9 ⟨rfl, b1⟩; have bz := bel_step (by assumption) b1)))
    have b9 := bz
    have s9 := b9.size
    have x0_9 := x0_8.below b9 (by omega)
    clear x0_8
    have x1_9 := x1_8.below b9 (by omega)
    clear x1_8
    have kn9 := kn8.next b9
    clear kn8 b9
    clear d0 d1 d2 d3 d4 d5 d6 d7
    obtain ⟨d0, d1, d2, d3, d4, d5, d6, d7, _⟩ := kn9.all
    clear KT KE
    clear x0_9
    go_wp2_with fail
    have KT : Hid (∀ W, Below w9.heap.size w9 W → Calls Try.prog 43 #[.agg #[.string nm1, .bool in1, .slice a1 len1 cap1]] W (UpdNew nm1 in1 z1 W)) := fun W b => toUpdate_any nm1 in1 a1 len1 cap1 w.heap.size z1 W (r1.belowB (kn9.next b).bel (Nat.le_refl _)) (kn9.next b).bel.size h1
    have KE : Hid (∀ W A c', Below w9.heap.size w9 W → RdI W W.heap.size A z1.length z1 → Calls Try.prog 45 #[.agg #[.string nm1, .bool in1, .slice Ax1 z1.length cx1], .agg #[.string nm1, .bool in1, .slice A z1.length c']] W fun e w' => e = .returned (.bool true) ∧ Below W.heap.size W w') := fun W A c' b h => eqUpdate_same _ _ _ _ _ _ _ _ _ _ _ W ((x1_9.rd rfl).belowB b (by omega)) h (Nat.le_trans (by omega) b.size) (Nat.le_refl _) hb1
    go_wp2_with fail
    have bz : Below w9.heap.size w9 w9.drew := (Below.refl _ _).drew
    go_region_held3 (fun W => W.cell? ⟨w.heap.size, 0, none⟩ = some (.slice a0 len0 cap0) ∧ W.cell? ⟨w.heap.size + 1, 0, none⟩ = some (.string nm1) ∧ W.cell? ⟨w.heap.size + 1, 1, none⟩ = some (.bool in1) ∧ W.cell? ⟨w.heap.size + 1, 2, none⟩ = some (.slice a1 len1 cap1) ∧ W.cell? ⟨w4.heap.size, 0, none⟩ = some (.slice Ax0 z0.length cx0) ∧ W.cell? ⟨w6.heap.size, 0, none⟩ = some (.string nm1) ∧ W.cell? ⟨w6.heap.size, 1, none⟩ = some (.bool in1) ∧ W.cell? ⟨w6.heap.size, 2, none⟩ = some (.slice Ax1 z1.length cx1) ∧ Below w9.heap.size w9 W)
      (first | assumption | exact Kn.allB kn9 (by assumption))
      (first | (go_at_call 43; ((with_reducible refine (KT.out _ (by assumption)).mono ?_); rintro e w1 ⟨A', c', rfl, ho, b1⟩; have bz := bel_step (by assumption) b1; have rd := ho.rd rfl; clear ho)) | (go_at_call 45; ((with_reducible refine (KE.out _ _ _ (by assumption) (by assumption)).mono ?_); rintro e w10 ⟨rfl, b1⟩; have bz := bel_step (by assumption) b1)))
    have b10 := bz
    have s10 := b10.size
    have x1_10 := x1_9.below b10 (by omega)
    clear x1_9
    have kn10 := kn9.next b10
    clear kn9 b10
    clear d0 d1 d2 d3 d4 d5 d6 d7
    obtain ⟨d0, d1, d2, d3, d4, d5, d6, d7, _⟩ := kn10.all
    clear KT KE
    clear x1_10
    go_wp2_with fail
    go_ret
    exact ⟨rfl, kn10.bel⟩
end Go.Proofs.Ytimlecfneibjlaa
