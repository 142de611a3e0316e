/- The walk of the law on InsertRow. No condition. -/
import Derived.Test.YtanlhbmpjfamkaaIns
import Derived.Deep.RegionHeld3
import Derived.Deep.DeepCutAuto
namespace Go.Proofs.Ytanlhbmpjfamkaa
open Go.RowKit Go.Deep
set_option maxRecDepth 100000 in
set_option maxHeartbeats 4000000 in
theorem insertRow_walk (nm0 : ByteArray) (ar0 : Int) (a0 : Option Addr) (len0 cap0 : Nat) (z0 : List (List Int)) (a1 : Option Addr) (len1 cap1 : Nat) (z1 : List Int) (w : World) (p0 : nm0.size ≤ maxLen) (_q0 : (Lit.int .i64 ar0).wf = true) (ll0 : len0 ≤ maxLen) (r0 : RdR w w.heap.size a0 len0 z0) (p1 : IsRow .i64 w a1 len1 cap1 z1) :
    Calls Try.prog 8 #[.agg #[.string nm0, .int .i64 ar0, .slice a0 len0 cap0], .slice a1 len1 cap1] w fun e w' => e = .returned (.bool true) ∧ Below w.heap.size w w' := by
  have kn0 : Kn w [(w.heap.size, 0, .string nm0), (w.heap.size, 1, .int .i64 ar0), (w.heap.size, 2, .slice a0 len0 cap0)] (w.alloc (.cells #[.string nm0, .int .i64 ar0, .slice a0 len0 cap0] 24)) := by simpa using ((Kn.start w).box3 (.string nm0) (.int .i64 ar0) (.slice a0 len0 cap0) 24)
  unfold maxLen at ll0
  have pp0 := p0
  unfold maxLen at pp0
  obtain ⟨r1, ll1⟩ := rdI_of_row p1
  clear p1
  generalize z1.take len1 = l1 at r1
  unfold maxLen at ll1
  by_cases h1 : len1 ≤ 1048576
  rotate_left
  · go_enter Try.func8, Try.ntmps8
    go_wp2_with fail
    go_ret
    exact ⟨rfl, kn0.bel⟩
  go_enter Try.func8, Try.ntmps8
  go_wp2_with fail
  have s0 : w.heap.size + 1 ≤ (w.alloc (.cells #[.string nm0, .int .i64 ar0, .slice a0 len0 cap0] 24)).heap.size := by simp
  generalize w.alloc (.cells #[.string nm0, .int .i64 ar0, .slice a0 len0 cap0] 24) = w0 at kn0 s0 ⊢
  with_reducible refine (szTable_any nm0 ar0 a0 len0 cap0 w.heap.size _ z0 w0 (r0.belowB kn0.bel (Nat.le_refl _)) kn0.bel.size p0 (by omega) (by omega) (by omega)).mono ?_
  rintro e w1 ⟨sa, rfl, hsa, b1⟩
  have s1 := b1.size
  have kn1 := kn0.next b1
  clear kn0 b1
  obtain ⟨d0, d1, d2, _⟩ := kn1.all
  rcases hsa with rfl | ⟨hsa, hza⟩
  · go_wp2_with fail
    go_ret
    exact ⟨rfl, kn1.bel⟩
  have qsa : ¬ sa < 0 := by omega
  have qta : sa ≤ 1048576 := by omega
  have HZa := Lib.hid hza
  clear hza
  have hza := HZa.out
  have h0 : len0 ≤ 1048576 := by omega
  have hrow0 : Hid (∀ r ∈ z0, r.length ≤ 1048576) := fun r hr => by have := sumL_mem hr; omega
  have hsum0 : sumL z0 ≤ 1048576 := by omega
  clear hza HZa
  have hl0 := Lib.hid r0.1
  have hb0 : z0.length ≤ 1048576 := by rw [hl0.out]; exact h0
  have hl1 := Lib.hid r1.1
  have hb1 : l1.length ≤ 1048576 := by rw [hl1.out]; exact h1
  obtain ⟨nmq, arq, rq, okq, hRq⟩ : ∃ a b c d, insR nm0 ar0 z0 l1 = ⟨a, b, c, d⟩ := ⟨_, _, _, _, rfl⟩
  have hbq : rq.length ≤ 1048576 ∧ sumL rq ≤ 4294967296 := by have := insR_small nm0 ar0 z0 l1 hb0 hsum0 hb1; rw [hRq] at this; exact this
  obtain ⟨hbq, hsq⟩ := hbq
  have KS : Hid (∀ A0 c0 A1 c1 W, RdR W W.heap.size A0 z0.length z0 → RdI W W.heap.size A1 len1 l1 → Calls Try.prog 31 #[.agg #[.string nm0, .int .i64 ar0, .slice A0 z0.length c0], .slice A1 len1 c1] W (TabAns nmq arq rq okq W)) := fun A0 c0 A1 c1 W h0 h1 => by have := spec_InsertRow_any nm0 ar0 A0 A1 _ c0 _ c1 _ z0 l1 W h0 h1 (Nat.le_refl _) (by omega) (by omega) (fun r hr => Nat.le_trans (hrow0.out r hr) (by omega)); rw [hRq] at this; exact this
  have KI : Hid (∀ A0 c0 A1 c1 W, RdR W W.heap.size A0 z0.length z0 → RdI W W.heap.size A1 len1 l1 → Calls Try.prog 32 #[.agg #[.string nm0, .int .i64 ar0, .slice A0 z0.length c0], .slice A1 len1 c1] W (TabAns nmq arq rq okq W)) := fun A0 c0 A1 c1 W h0 h1 => by have := impl_InsertRow_any nm0 ar0 A0 A1 _ c0 _ c1 _ z0 l1 W h0 h1 (Nat.le_refl _) (by omega) (by omega) (fun r hr => Nat.le_trans (hrow0.out r hr) (by omega)); rw [hRq] at this; exact this
  clear hRq
  go_wp2_with fail
  with_reducible refine (toTable_any nm0 ar0 a0 len0 cap0 w.heap.size z0 w1 (r0.belowB kn1.bel (Nat.le_refl _)) kn1.bel.size h0 hrow0.out).mono ?_
  rintro e w2 ⟨Ao0, co0, rfl, o0, b2⟩
  have s2 := b2.size
  have kn2 := kn1.next b2
  clear kn1 b2
  clear d0 d1 d2
  obtain ⟨d0, d1, d2, _⟩ := kn2.all
  go_wp2_with fail
  with_reducible refine (toIntS_any a1 len1 cap1 w.heap.size l1 w2 (r1.belowB kn2.bel (Nat.le_refl _)) kn2.bel.size h1).mono ?_
  rintro e w3 ⟨rfl, o1, b3⟩
  have s3 := b3.size
  have o0_3 := o0.below b3 (by omega)
  clear o0
  have kn3 := kn2.next b3
  clear kn2 b3
  clear d0 d1 d2
  obtain ⟨d0, d1, d2, _⟩ := kn3.all
  go_wp2_with fail
  with_reducible refine (KS.out _ _ _ _ _ (((o0_3.rd rfl).more (by omega))) (((o1.rd hl1.out).more (by omega)))).mono ?_
  rintro e w4 ⟨Aw, cw, rfl, ow, b4⟩
  have s4 := b4.size
  have o0_4 := o0_3.below b4 (by omega)
  clear o0_3
  have o1_4 := o1.below b4 (by omega)
  clear o1
  have kn4 := kn3.next b4
  clear kn3 b4
  clear d0 d1 d2
  obtain ⟨d0, d1, d2, _⟩ := kn4.all
  clear o0_4
  clear o1_4
  have ne0 : w.heap.size < w4.heap.size := by omega
  go_wp2_with fail
  clear ne0
  have kn5 : Kn w [(w.heap.size, 0, .string nm0), (w.heap.size, 1, .int .i64 ar0), (w.heap.size, 2, .slice a0 len0 cap0), (w4.heap.size, 0, .string nmq), (w4.heap.size, 1, .int .i64 arq), (w4.heap.size, 2, .slice Aw rq.length cw)] (w4.alloc (.cells #[.string nmq, .int .i64 arq, .slice Aw rq.length cw] 27)) := kn4.box3 (.string nmq) (.int .i64 arq) (.slice Aw rq.length cw) 27
  have s5 : w4.heap.size + 1 ≤ (w4.alloc (.cells #[.string nmq, .int .i64 arq, .slice Aw rq.length cw] 27)).heap.size := by simp
  have ow_5 := ow.below ((Below.refl _ _).alloc (Nat.le_refl _) (.cells #[.string nmq, .int .i64 arq, .slice Aw rq.length cw] 27)) (by omega)
  clear ow
  clear kn4
  clear d0 d1 d2
  generalize w4.alloc (.cells #[.string nmq, .int .i64 arq, .slice Aw rq.length cw] 27) = w5 at kn5 s5 ow_5 ⊢
  obtain ⟨d0, d1, d2, d3, d4, d5, _⟩ := kn5.all
  go_wp2_with fail
  with_reducible refine (toTable_any nm0 ar0 a0 len0 cap0 w.heap.size z0 w5 (r0.belowB kn5.bel (Nat.le_refl _)) kn5.bel.size h0 hrow0.out).mono ?_
  rintro e w6 ⟨Ax0, cx0, rfl, x0, b6⟩
  have s6 := b6.size
  have ow_6 := ow_5.below b6 (by omega)
  clear ow_5
  have kn6 := kn5.next b6
  clear kn5 b6
  clear d0 d1 d2 d3 d4 d5
  obtain ⟨d0, d1, d2, d3, d4, d5, _⟩ := kn6.all
  have ne0 : w.heap.size < w6.heap.size := by omega
  have ne1 : w4.heap.size < w6.heap.size := by omega
  go_wp2_with fail
  clear ne0 ne1
  have kn7 : Kn w [(w.heap.size, 0, .string nm0), (w.heap.size, 1, .int .i64 ar0), (w.heap.size, 2, .slice a0 len0 cap0), (w4.heap.size, 0, .string nmq), (w4.heap.size, 1, .int .i64 arq), (w4.heap.size, 2, .slice Aw rq.length cw), (w6.heap.size, 0, .string nm0), (w6.heap.size, 1, .int .i64 ar0), (w6.heap.size, 2, .slice Ax0 z0.length cx0)] (w6.alloc (.cells #[.string nm0, .int .i64 ar0, .slice Ax0 z0.length cx0] 27)) := kn6.box3 (.string nm0) (.int .i64 ar0) (.slice Ax0 z0.length cx0) 27
  have s7 : w6.heap.size + 1 ≤ (w6.alloc (.cells #[.string nm0, .int .i64 ar0, .slice Ax0 z0.length cx0] 27)).heap.size := by simp
  have ow_7 := ow_6.below ((Below.refl _ _).alloc (Nat.le_refl _) (.cells #[.string nm0, .int .i64 ar0, .slice Ax0 z0.length cx0] 27)) (by omega)
  clear ow_6
  have x0_7 := x0.below ((Below.refl _ _).alloc (Nat.le_refl _) (.cells #[.string nm0, .int .i64 ar0, .slice Ax0 z0.length cx0] 27)) (by omega)
  clear x0
  clear kn6
  clear d0 d1 d2 d3 d4 d5
  generalize w6.alloc (.cells #[.string nm0, .int .i64 ar0, .slice Ax0 z0.length cx0] 27) = w7 at kn7 s7 ow_7 x0_7 ⊢
  obtain ⟨d0, d1, d2, d3, d4, d5, d6, d7, d8, _⟩ := kn7.all
  go_wp2_with fail
  with_reducible refine (toIntS_any a1 len1 cap1 w.heap.size l1 w7 (r1.belowB kn7.bel (Nat.le_refl _)) kn7.bel.size h1).mono ?_
  rintro e w8 ⟨rfl, x1, b8⟩
  have s8 := b8.size
  have ow_8 := ow_7.below b8 (by omega)
  clear ow_7
  have x0_8 := x0_7.below b8 (by omega)
  clear x0_7
  have kn8 := kn7.next b8
  clear kn7 b8
  clear d0 d1 d2 d3 d4 d5 d6 d7 d8
  obtain ⟨d0, d1, d2, d3, d4, d5, d6, d7, d8, _⟩ := kn8.all
  go_wp2_with fail
  with_reducible refine (KI.out _ _ _ _ _ (((x0_8.rd rfl).more (by omega))) (((x1.rd hl1.out).more (by omega)))).mono ?_
  rintro e w9 ⟨Ag, cg, rfl, og, b9⟩
  have s9 := b9.size
  have ow_9 := ow_8.below b9 (by omega)
  clear ow_8
  have x0_9 := x0_8.below b9 (by omega)
  clear x0_8
  have x1_9 := x1.below b9 (by omega)
  clear x1
  have kn9 := kn8.next b9
  clear kn8 b9
  clear d0 d1 d2 d3 d4 d5 d6 d7 d8
  obtain ⟨d0, d1, d2, d3, d4, d5, d6, d7, d8, _⟩ := kn9.all
  have ne0 : w.heap.size < w9.heap.size := by omega
  have ne1 : w4.heap.size < w9.heap.size := by omega
  have ne2 : w6.heap.size < w9.heap.size := by omega
  go_wp2_with fail
  clear ne0 ne1 ne2
  have kn10 : Kn w [(w.heap.size, 0, .string nm0), (w.heap.size, 1, .int .i64 ar0), (w.heap.size, 2, .slice a0 len0 cap0), (w4.heap.size, 0, .string nmq), (w4.heap.size, 1, .int .i64 arq), (w4.heap.size, 2, .slice Aw rq.length cw), (w6.heap.size, 0, .string nm0), (w6.heap.size, 1, .int .i64 ar0), (w6.heap.size, 2, .slice Ax0 z0.length cx0), (w9.heap.size, 0, .string nmq), (w9.heap.size, 1, .int .i64 arq), (w9.heap.size, 2, .slice Ag rq.length cg)] (w9.alloc (.cells #[.string nmq, .int .i64 arq, .slice Ag rq.length cg] 27)) := kn9.box3 (.string nmq) (.int .i64 arq) (.slice Ag rq.length cg) 27
  have s10 : w9.heap.size + 1 ≤ (w9.alloc (.cells #[.string nmq, .int .i64 arq, .slice Ag rq.length cg] 27)).heap.size := by simp
  have ow_10 := ow_9.below ((Below.refl _ _).alloc (Nat.le_refl _) (.cells #[.string nmq, .int .i64 arq, .slice Ag rq.length cg] 27)) (by omega)
  clear ow_9
  have x0_10 := x0_9.below ((Below.refl _ _).alloc (Nat.le_refl _) (.cells #[.string nmq, .int .i64 arq, .slice Ag rq.length cg] 27)) (by omega)
  clear x0_9
  have x1_10 := x1_9.below ((Below.refl _ _).alloc (Nat.le_refl _) (.cells #[.string nmq, .int .i64 arq, .slice Ag rq.length cg] 27)) (by omega)
  clear x1_9
  have og_10 := og.below ((Below.refl _ _).alloc (Nat.le_refl _) (.cells #[.string nmq, .int .i64 arq, .slice Ag rq.length cg] 27)) (by omega)
  clear og
  clear kn9
  clear d0 d1 d2 d3 d4 d5 d6 d7 d8
  generalize w9.alloc (.cells #[.string nmq, .int .i64 arq, .slice Ag rq.length cg] 27) = w10 at kn10 s10 ow_10 x0_10 x1_10 og_10 ⊢
  obtain ⟨d0, d1, d2, d3, d4, d5, d6, d7, d8, d9, d10, d11, _⟩ := kn10.all
  have qk : (okq != okq) = false := by simp
  go_wp2_with fail
  with_reducible refine (eqTable_same _ _ _ _ _ _ _ _ _ _ _ _ (og_10.rd rfl) (ow_10.rd rfl) (by omega) (by omega) hbq).mono ?_
  rintro e w11 ⟨rfl, b11⟩
  have s11 := b11.size
  have ow_11 := ow_10.below b11 (by omega)
  clear ow_10
  have x0_11 := x0_10.below b11 (by omega)
  clear x0_10
  have x1_11 := x1_10.below b11 (by omega)
  clear x1_10
  have og_11 := og_10.below b11 (by omega)
  clear og_10
  have kn11 := kn10.next b11
  clear kn10 b11
  clear d0 d1 d2 d3 d4 d5 d6 d7 d8 d9 d10 d11
  obtain ⟨d0, d1, d2, d3, d4, d5, d6, d7, d8, d9, d10, d11, _⟩ := kn11.all
  go_wp2_with fail
  have KT : Hid (∀ W, Below w11.heap.size w11 W → Calls Try.prog 11 #[.agg #[.string nm0, .int .i64 ar0, .slice a0 len0 cap0]] W (TabNew nm0 ar0 z0 W)) := fun W b => toTable_any nm0 ar0 a0 len0 cap0 w.heap.size z0 W (r0.belowB (kn11.next b).bel (Nat.le_refl _)) (kn11.next b).bel.size h0 hrow0.out
  have KE : Hid (∀ W A c', Below w11.heap.size w11 W → RdR W W.heap.size A z0.length z0 → Calls Try.prog 13 #[.agg #[.string nm0, .int .i64 ar0, .slice Ax0 z0.length cx0], .agg #[.string nm0, .int .i64 ar0, .slice A z0.length c']] W fun e w' => e = .returned (.bool true) ∧ Below W.heap.size W w') := fun W A c' b h => eqTable_same _ _ _ _ _ _ _ _ _ _ _ W ((x0_11.rd rfl).belowB b (by omega)) h (Nat.le_trans (by omega) b.size) (Nat.le_refl _) hb0
  go_wp2_with fail
  have bz : Below w11.heap.size w11 w11.drew := (Below.refl _ _).drew
  go_region_held3 (fun W => W.cell? ⟨w.heap.size, 0, none⟩ = some (.string nm0) ∧ W.cell? ⟨w.heap.size, 1, none⟩ = some (.int .i64 ar0) ∧ W.cell? ⟨w.heap.size, 2, none⟩ = some (.slice a0 len0 cap0) ∧ W.cell? ⟨w4.heap.size, 0, none⟩ = some (.string nmq) ∧ W.cell? ⟨w4.heap.size, 1, none⟩ = some (.int .i64 arq) ∧ W.cell? ⟨w4.heap.size, 2, none⟩ = some (.slice Aw rq.length cw) ∧ W.cell? ⟨w6.heap.size, 0, none⟩ = some (.string nm0) ∧ W.cell? ⟨w6.heap.size, 1, none⟩ = some (.int .i64 ar0) ∧ W.cell? ⟨w6.heap.size, 2, none⟩ = some (.slice Ax0 z0.length cx0) ∧ W.cell? ⟨w9.heap.size, 0, none⟩ = some (.string nmq) ∧ W.cell? ⟨w9.heap.size, 1, none⟩ = some (.int .i64 arq) ∧ W.cell? ⟨w9.heap.size, 2, none⟩ = some (.slice Ag rq.length cg) ∧ Below w11.heap.size w11 W)
    (first | assumption | exact Kn.allB kn11 (by assumption))
    (first | (go_at_call 11; ((with_reducible refine (KT.out _ (by assumption)).mono ?_); rintro e w1 ⟨A', c', rfl, ho, b1⟩; have bz := bel_step (by assumption) b1; have rd := ho.rd rfl; clear ho)) | (go_at_call 13; ((with_reducible refine (KE.out _ _ _ (by assumption) (by assumption)).mono ?_); rintro e w12 ⟨rfl, b1⟩; have bz := bel_step (by assumption) b1)))
  have b12 := bz
  have s12 := b12.size
  have ow_12 := ow_11.below b12 (by omega)
  clear ow_11
  have x0_12 := x0_11.below b12 (by omega)
  clear x0_11
  have x1_12 := x1_11.below b12 (by omega)
  clear x1_11
  have og_12 := og_11.below b12 (by omega)
  clear og_11
  have kn12 := kn11.next b12
  clear kn11 b12
  clear d0 d1 d2 d3 d4 d5 d6 d7 d8 d9 d10 d11
  obtain ⟨d0, d1, d2, d3, d4, d5, d6, d7, d8, d9, d10, d11, _⟩ := kn12.all
  clear KT KE
  go_wp2_with fail
  with_reducible refine (toIntS_any a1 len1 cap1 w.heap.size l1 w12 (r1.belowB kn12.bel (Nat.le_refl _)) kn12.bel.size h1).mono ?_
  rintro e w13 ⟨rfl, y1, b13⟩
  have s13 := b13.size
  have ow_13 := ow_12.below b13 (by omega)
  clear ow_12
  have x0_13 := x0_12.below b13 (by omega)
  clear x0_12
  have x1_13 := x1_12.below b13 (by omega)
  clear x1_12
  have og_13 := og_12.below b13 (by omega)
  clear og_12
  have kn13 := kn12.next b13
  clear kn12 b13
  clear d0 d1 d2 d3 d4 d5 d6 d7 d8 d9 d10 d11
  obtain ⟨d0, d1, d2, d3, d4, d5, d6, d7, d8, d9, d10, d11, _⟩ := kn13.all
  go_wp2_with fail
  with_reducible refine (eqIntS_same _ _ _ _ _ _ _ _ _ _ (x1_13.rd hl1.out) (y1.rd hl1.out) (by omega) (by omega) hb1).mono ?_
  rintro e w14 ⟨rfl, b14⟩
  have s14 := b14.size
  have ow_14 := ow_13.below b14 (by omega)
  clear ow_13
  have x0_14 := x0_13.below b14 (by omega)
  clear x0_13
  have x1_14 := x1_13.below b14 (by omega)
  clear x1_13
  have og_14 := og_13.below b14 (by omega)
  clear og_13
  have y1_14 := y1.below b14 (by omega)
  clear y1
  have kn14 := kn13.next b14
  clear kn13 b14
  clear d0 d1 d2 d3 d4 d5 d6 d7 d8 d9 d10 d11
  obtain ⟨d0, d1, d2, d3, d4, d5, d6, d7, d8, d9, d10, d11, _⟩ := kn14.all
  clear y1_14
  go_wp2_with fail
  with_reducible refine (markTable_any _ _ _ _ _ _ _ _ _ _ x0_14 (by omega) (by omega) (by omega)).mono ?_
  rintro e w15 ⟨rfl, x0m, b15⟩
  have s15 := b15.size
  have ow_15 := ow_14.chg b15 (by omega)
  clear ow_14
  have x1_15 := x1_14.chg b15 (by omega)
  clear x1_14
  have og_15 := og_14.chg b15 (by omega)
  clear og_14
  have kn15 := kn14.chg b15 (by omega) (by simp only [List.forall_mem_cons]; simp; try omega)
  clear kn14 b15
  clear d0 d1 d2 d3 d4 d5 d6 d7 d8 d9 d10 d11
  obtain ⟨d0, d1, d2, d3, d4, d5, d6, d7, d8, d9, d10, d11, _⟩ := kn15.all
  clear x0m
  have kn16 : Kn w [(w.heap.size, 0, .string nm0), (w.heap.size, 1, .int .i64 ar0), (w.heap.size, 2, .slice a0 len0 cap0), (w4.heap.size, 0, .string nmq), (w4.heap.size, 1, .int .i64 arq), (w4.heap.size, 2, .slice Aw rq.length cw), (w9.heap.size, 0, .string nmq), (w9.heap.size, 1, .int .i64 arq), (w9.heap.size, 2, .slice Ag rq.length cg)] w15 := kn15.sub (by simp)
  clear kn15
  clear d0 d1 d2 d3 d4 d5 d6 d7 d8 d9 d10 d11
  obtain ⟨d0, d1, d2, d3, d4, d5, d6, d7, d8, _⟩ := kn16.all
  go_wp2_with fail
  with_reducible refine (markIntS_any _ _ _ _ _ _ _ _ x1_15 hl1.out (by omega) (by omega) (by omega)).mono ?_
  rintro e w17 ⟨rfl, x1m, b17⟩
  have s17 := b17.size
  have ow_17 := ow_15.chg b17 (by omega)
  clear ow_15
  have og_17 := og_15.chg b17 (by omega)
  clear og_15
  have kn17 := kn16.chg b17 (by omega) (by simp only [List.forall_mem_cons]; simp; try omega)
  clear kn16 b17
  clear d0 d1 d2 d3 d4 d5 d6 d7 d8
  obtain ⟨d0, d1, d2, d3, d4, d5, d6, d7, d8, _⟩ := kn17.all
  clear x1m
  have qn : ¬ (1 + ((sumL z0 : Nat) : Int) + ((len1 : Nat) : Int) < 0) := by omega
  go_wp2_with fail
  with_reducible refine (eqTable_same _ _ _ _ _ _ _ _ _ _ _ _ (og_17.rd rfl) (ow_17.rd rfl) (by omega) (by omega) hbq).mono ?_
  rintro e w18 ⟨rfl, b18⟩
  have s18 := b18.size
  have ow_18 := ow_17.below b18 (by omega)
  clear ow_17
  have og_18 := og_17.below b18 (by omega)
  clear og_17
  have kn18 := kn17.next b18
  clear kn17 b18
  clear d0 d1 d2 d3 d4 d5 d6 d7 d8
  obtain ⟨d0, d1, d2, d3, d4, d5, d6, d7, d8, _⟩ := kn18.all
  clear qn
  go_wp2_with fail
  with_reducible refine (markTable_any _ _ _ _ _ _ _ _ _ _ og_18 (by omega) (by omega) (by omega)).mono ?_
  rintro e w19 ⟨rfl, ogm, b19⟩
  have s19 := b19.size
  have ow_19 := ow_18.chg b19 (by omega)
  clear ow_18
  have kn19 := kn18.chg b19 (by omega) (by simp only [List.forall_mem_cons]; simp; try omega)
  clear kn18 b19
  clear d0 d1 d2 d3 d4 d5 d6 d7 d8
  obtain ⟨d0, d1, d2, d3, d4, d5, d6, d7, d8, _⟩ := kn19.all
  have qn : ¬ (1 + ((sumL rq : Nat) : Int) < 0) := by omega
  have qm : (1 + ((sumL rq : Nat) : Int) != 1 + ((sumL rq : Nat) : Int)) = false := by simp
  go_wp2_with fail
  with_reducible refine (heldTable_any _ _ _ _ _ _ _ _ _ (ogm.rd (cntR_length _ _)) (by omega) (by omega) (by omega) (by omega)).mono ?_
  rintro e w20 ⟨rfl, b20⟩
  have s20 := b20.size
  have ow_20 := ow_19.below b20 (by omega)
  clear ow_19
  have og_20 := ogm.below b20 (by omega)
  clear ogm
  have kn20 := kn19.next b20
  clear kn19 b20
  clear d0 d1 d2 d3 d4 d5 d6 d7 d8
  obtain ⟨d0, d1, d2, d3, d4, d5, d6, d7, d8, _⟩ := kn20.all
  go_wp2_with fail
  with_reducible refine (toTable_any nm0 ar0 a0 len0 cap0 w.heap.size z0 w20 (r0.belowB kn20.bel (Nat.le_refl _)) kn20.bel.size h0 hrow0.out).mono ?_
  rintro e w21 ⟨Au0, cu0, rfl, u0, b21⟩
  have s21 := b21.size
  have ow_21 := ow_20.below b21 (by omega)
  clear ow_20
  have og_21 := og_20.below b21 (by omega)
  clear og_20
  have kn21 := kn20.next b21
  clear kn20 b21
  clear d0 d1 d2 d3 d4 d5 d6 d7 d8
  obtain ⟨d0, d1, d2, d3, d4, d5, d6, d7, d8, _⟩ := kn21.all
  go_wp2_with fail
  with_reducible refine (toIntS_any a1 len1 cap1 w.heap.size l1 w21 (r1.belowB kn21.bel (Nat.le_refl _)) kn21.bel.size h1).mono ?_
  rintro e w22 ⟨rfl, u1, b22⟩
  have s22 := b22.size
  have ow_22 := ow_21.below b22 (by omega)
  clear ow_21
  have og_22 := og_21.below b22 (by omega)
  clear og_21
  have u0_22 := u0.below b22 (by omega)
  clear u0
  have kn22 := kn21.next b22
  clear kn21 b22
  clear d0 d1 d2 d3 d4 d5 d6 d7 d8
  obtain ⟨d0, d1, d2, d3, d4, d5, d6, d7, d8, _⟩ := kn22.all
  go_wp2_with fail
  with_reducible refine (KI.out _ _ _ _ _ (((u0_22.rd rfl).more (by omega))) (((u1.rd hl1.out).more (by omega)))).mono ?_
  rintro e w23 ⟨Ah, ch, rfl, oh, b23⟩
  have s23 := b23.size
  have ow_23 := ow_22.below b23 (by omega)
  clear ow_22
  have og_23 := og_22.below b23 (by omega)
  clear og_22
  have u0_23 := u0_22.below b23 (by omega)
  clear u0_22
  have u1_23 := u1.below b23 (by omega)
  clear u1
  have kn23 := kn22.next b23
  clear kn22 b23
  clear d0 d1 d2 d3 d4 d5 d6 d7 d8
  obtain ⟨d0, d1, d2, d3, d4, d5, d6, d7, d8, _⟩ := kn23.all
  clear u0_23
  clear u1_23
  have ne0 : w.heap.size < w23.heap.size := by omega
  have ne1 : w4.heap.size < w23.heap.size := by omega
  have ne2 : w9.heap.size < w23.heap.size := by omega
  go_wp2_with fail
  clear ne0 ne1 ne2
  have kn24 : Kn w [(w.heap.size, 0, .string nm0), (w.heap.size, 1, .int .i64 ar0), (w.heap.size, 2, .slice a0 len0 cap0), (w4.heap.size, 0, .string nmq), (w4.heap.size, 1, .int .i64 arq), (w4.heap.size, 2, .slice Aw rq.length cw), (w9.heap.size, 0, .string nmq), (w9.heap.size, 1, .int .i64 arq), (w9.heap.size, 2, .slice Ag rq.length cg), (w23.heap.size, 0, .string nmq), (w23.heap.size, 1, .int .i64 arq), (w23.heap.size, 2, .slice Ah rq.length ch)] (w23.alloc (.cells #[.string nmq, .int .i64 arq, .slice Ah rq.length ch] 27)) := kn23.box3 (.string nmq) (.int .i64 arq) (.slice Ah rq.length ch) 27
  have s24 : w23.heap.size + 1 ≤ (w23.alloc (.cells #[.string nmq, .int .i64 arq, .slice Ah rq.length ch] 27)).heap.size := by simp
  have ow_24 := ow_23.below ((Below.refl _ _).alloc (Nat.le_refl _) (.cells #[.string nmq, .int .i64 arq, .slice Ah rq.length ch] 27)) (by omega)
  clear ow_23
  have og_24 := og_23.below ((Below.refl _ _).alloc (Nat.le_refl _) (.cells #[.string nmq, .int .i64 arq, .slice Ah rq.length ch] 27)) (by omega)
  clear og_23
  have oh_24 := oh.below ((Below.refl _ _).alloc (Nat.le_refl _) (.cells #[.string nmq, .int .i64 arq, .slice Ah rq.length ch] 27)) (by omega)
  clear oh
  clear kn23
  clear d0 d1 d2 d3 d4 d5 d6 d7 d8
  generalize w23.alloc (.cells #[.string nmq, .int .i64 arq, .slice Ah rq.length ch] 27) = w24 at kn24 s24 ow_24 og_24 oh_24 ⊢
  obtain ⟨d0, d1, d2, d3, d4, d5, d6, d7, d8, d9, d10, d11, _⟩ := kn24.all
  go_wp2_with fail
  with_reducible refine (eqTable_same _ _ _ _ _ _ _ _ _ _ _ _ (oh_24.rd rfl) (ow_24.rd rfl) (by omega) (by omega) hbq).mono ?_
  rintro e w25 ⟨rfl, b25⟩
  have s25 := b25.size
  have ow_25 := ow_24.below b25 (by omega)
  clear ow_24
  have og_25 := og_24.below b25 (by omega)
  clear og_24
  have oh_25 := oh_24.below b25 (by omega)
  clear oh_24
  have kn25 := kn24.next b25
  clear kn24 b25
  clear d0 d1 d2 d3 d4 d5 d6 d7 d8 d9 d10 d11
  obtain ⟨d0, d1, d2, d3, d4, d5, d6, d7, d8, d9, d10, d11, _⟩ := kn25.all
  clear oh_25
  clear ow_25
  go_wp2_with fail
  with_reducible refine (heldTable_any _ _ _ _ _ _ _ _ _ (og_25.rd (cntR_length _ _)) (by omega) (by omega) (by omega) (by omega)).mono ?_
  rintro e w26 ⟨rfl, b26⟩
  have s26 := b26.size
  have og_26 := og_25.below b26 (by omega)
  clear og_25
  have kn26 := kn25.next b26
  clear kn25 b26
  clear d0 d1 d2 d3 d4 d5 d6 d7 d8 d9 d10 d11
  obtain ⟨d0, d1, d2, d3, d4, d5, d6, d7, d8, d9, d10, d11, _⟩ := kn26.all
  go_wp2_with fail
  go_ret
  exact ⟨rfl, kn26.bel⟩
end Go.Proofs.Ytanlhbmpjfamkaa
