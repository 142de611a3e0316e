/- The walk of the law on ContainsRow. No condition. -/
import Derived.Test.YtanlhbmpjfamkaaContS
import Derived.Test.YtanlhbmpjfamkaaKn
import Derived.Deep.RegionHeld3
import Derived.Deep.DeepCutAuto
namespace Go.Proofs.Ytanlhbmpjfamkaa
open Go.RowKit Go.Deep
set_option maxRecDepth 100000 in
set_option maxHeartbeats 4000000 in
theorem containsRow_walk (nm0 : ByteArray) (ar0 : Int) (a0 : Option Addr) (len0 cap0 : Nat) (z0 : List (List Int)) (a1 : Option Addr) (len1 cap1 : Nat) (z1 : List Int) (w : World) (p0 : nm0.size ≤ maxLen) (_q0 : (Lit.int .i64 ar0).wf = true) (ll0 : len0 ≤ maxLen) (r0 : RdR w w.heap.size a0 len0 z0) (p1 : IsRow .i64 w a1 len1 cap1 z1) :
    Calls Try.prog 5 #[.agg #[.string nm0, .int .i64 ar0, .slice a0 len0 cap0], .slice a1 len1 cap1] w fun e w' => e = .returned (.bool true) ∧ Below w.heap.size w w' := by
  have kn0 : Kn w [(w.heap.size, 0, .string nm0), (w.heap.size, 1, .int .i64 ar0), (w.heap.size, 2, .slice a0 len0 cap0)] (w.alloc (.cells #[.string nm0, .int .i64 ar0, .slice a0 len0 cap0] 24)) := by simpa using ((Kn.start w).box3 (.string nm0) (.int .i64 ar0) (.slice a0 len0 cap0) 24)
  unfold maxLen at ll0
  have pp0 := p0
  unfold maxLen at pp0
  obtain ⟨r1, ll1⟩ := rdI_of_row p1
  clear p1
  generalize z1.take len1 = l1 at r1
  unfold maxLen at ll1
  by_cases h1 : len1 ≤ 1048576
  rotate_left
  · go_enter Try.func5, Try.ntmps5
    go_wp2_with fail
    go_ret
    exact ⟨rfl, kn0.bel⟩
  go_enter Try.func5, Try.ntmps5
  go_wp2_with fail
  have s0 : w.heap.size + 1 ≤ (w.alloc (.cells #[.string nm0, .int .i64 ar0, .slice a0 len0 cap0] 24)).heap.size := by simp
  generalize w.alloc (.cells #[.string nm0, .int .i64 ar0, .slice a0 len0 cap0] 24) = w0 at kn0 s0 ⊢
  with_reducible refine (szTable_any nm0 ar0 a0 len0 cap0 w.heap.size _ z0 w0 (r0.belowB kn0.bel (Nat.le_refl _)) kn0.bel.size p0 (by omega) (by omega) (by omega)).mono ?_
  rintro e w1 ⟨sa, rfl, hsa, b1⟩
  have s1 := b1.size
  have kn1 := kn0.next b1
  clear kn0 b1
  obtain ⟨d0, d1, d2, _⟩ := kn1.all
  rcases hsa with rfl | ⟨hsa, hza⟩
  · go_wp2_with fail
    go_ret
    exact ⟨rfl, kn1.bel⟩
  have qsa : ¬ sa < 0 := by omega
  have qta : sa ≤ 1048576 := by omega
  have HZa := Lib.hid hza
  clear hza
  have hza := HZa.out
  have h0 : len0 ≤ 1048576 := by omega
  have hrow0 : Hid (∀ r ∈ z0, r.length ≤ 1048576) := fun r hr => by have := sumL_mem hr; omega
  have hsum0 : sumL z0 ≤ 1048576 := by omega
  clear hza HZa
  have hl0 := Lib.hid r0.1
  have hb0 : z0.length ≤ 1048576 := by rw [hl0.out]; exact h0
  have hl1 := Lib.hid r1.1
  have hb1 : l1.length ≤ 1048576 := by rw [hl1.out]; exact h1
  have h9 : z0.length ≤ 9223372036854775806 := by omega
  have KS : Hid (∀ A c A' c' W, RdR W W.heap.size A z0.length z0 → RdI W W.heap.size A' len1 l1 → Calls Try.prog 16 #[.agg #[.string nm0, .int .i64 ar0, .slice A z0.length c], .slice A' len1 c'] W fun e w' => e = .returned (.bool (contB nm0 ar0 z0 l1)) ∧ Below W.heap.size W w') := fun A c A' c' W h h' => spec_ContainsRow_any nm0 ar0 A A' _ c _ c' _ z0 l1 W h h' (Nat.le_refl _) h9 (by omega)
  have KI : Hid (∀ A c A' c' W, RdR W W.heap.size A z0.length z0 → RdI W W.heap.size A' len1 l1 → Calls Try.prog 18 #[.agg #[.string nm0, .int .i64 ar0, .slice A z0.length c], .slice A' len1 c'] W fun e w' => e = .returned (.bool (contB nm0 ar0 z0 l1)) ∧ Below W.heap.size W w') := fun A c A' c' W h h' => impl_ContainsRow_any nm0 ar0 A A' _ c _ c' _ z0 l1 W h h' (Nat.le_refl _) h9 (by omega)
  clear h9
  generalize (contB nm0 ar0 z0 l1) = bq at KS KI
  go_wp2_with fail
  with_reducible refine (toTable_any nm0 ar0 a0 len0 cap0 w.heap.size z0 w1 (r0.belowB kn1.bel (Nat.le_refl _)) kn1.bel.size h0 hrow0.out).mono ?_
  rintro e w2 ⟨Ao0, co0, rfl, o0, b2⟩
  have s2 := b2.size
  have kn2 := kn1.next b2
  clear kn1 b2
  clear d0 d1 d2
  obtain ⟨d0, d1, d2, _⟩ := kn2.all
  go_wp2_with fail
  with_reducible refine (toIntS_any a1 len1 cap1 w.heap.size l1 w2 (r1.belowB kn2.bel (Nat.le_refl _)) kn2.bel.size h1).mono ?_
  rintro e w3 ⟨rfl, o1, b3⟩
  have s3 := b3.size
  have o0_3 := o0.below b3 (by omega)
  clear o0
  have kn3 := kn2.next b3
  clear kn2 b3
  clear d0 d1 d2
  obtain ⟨d0, d1, d2, _⟩ := kn3.all
  go_wp2_with fail
  with_reducible refine (KS.out _ _ _ _ _ ((o0_3.rd rfl).more (by omega)) ((o1.rd hl1.out).more (by omega))).mono ?_
  rintro e w4 ⟨rfl, b4⟩
  have s4 := b4.size
  have o0_4 := o0_3.below b4 (by omega)
  clear o0_3
  have o1_4 := o1.below b4 (by omega)
  clear o1
  have kn4 := kn3.next b4
  clear kn3 b4
  clear d0 d1 d2
  obtain ⟨d0, d1, d2, _⟩ := kn4.all
  clear o0_4
  clear o1_4
  go_wp2_with fail
  with_reducible refine (toTable_any nm0 ar0 a0 len0 cap0 w.heap.size z0 w4 (r0.belowB kn4.bel (Nat.le_refl _)) kn4.bel.size h0 hrow0.out).mono ?_
  rintro e w5 ⟨Ax0, cx0, rfl, x0, b5⟩
  have s5 := b5.size
  have kn5 := kn4.next b5
  clear kn4 b5
  clear d0 d1 d2
  obtain ⟨d0, d1, d2, _⟩ := kn5.all
  have ne0 : w.heap.size < w5.heap.size := by omega
  go_wp2_with fail
  clear ne0
  have kn6 : Kn w [(w.heap.size, 0, .string nm0), (w.heap.size, 1, .int .i64 ar0), (w.heap.size, 2, .slice a0 len0 cap0), (w5.heap.size, 0, .string nm0), (w5.heap.size, 1, .int .i64 ar0), (w5.heap.size, 2, .slice Ax0 z0.length cx0)] (w5.alloc (.cells #[.string nm0, .int .i64 ar0, .slice Ax0 z0.length cx0] 27)) := kn5.box3 (.string nm0) (.int .i64 ar0) (.slice Ax0 z0.length cx0) 27
  have s6 : w5.heap.size + 1 ≤ (w5.alloc (.cells #[.string nm0, .int .i64 ar0, .slice Ax0 z0.length cx0] 27)).heap.size := by simp
  have x0_6 := x0.below ((Below.refl _ _).alloc (Nat.le_refl _) (.cells #[.string nm0, .int .i64 ar0, .slice Ax0 z0.length cx0] 27)) (by omega)
  clear x0
  clear kn5
  clear d0 d1 d2
  generalize w5.alloc (.cells #[.string nm0, .int .i64 ar0, .slice Ax0 z0.length cx0] 27) = w6 at kn6 s6 x0_6 ⊢
  obtain ⟨d0, d1, d2, d3, d4, d5, _⟩ := kn6.all
  go_wp2_with fail
  with_reducible refine (toIntS_any a1 len1 cap1 w.heap.size l1 w6 (r1.belowB kn6.bel (Nat.le_refl _)) kn6.bel.size h1).mono ?_
  rintro e w7 ⟨rfl, x1, b7⟩
  have s7 := b7.size
  have x0_7 := x0_6.below b7 (by omega)
  clear x0_6
  have kn7 := kn6.next b7
  clear kn6 b7
  clear d0 d1 d2 d3 d4 d5
  obtain ⟨d0, d1, d2, d3, d4, d5, _⟩ := kn7.all
  go_wp2_with fail
  with_reducible refine (KI.out _ _ _ _ _ ((x0_7.rd rfl).more (by omega)) ((x1.rd hl1.out).more (by omega))).mono ?_
  rintro e w8 ⟨rfl, b8⟩
  have s8 := b8.size
  have x0_8 := x0_7.below b8 (by omega)
  clear x0_7
  have x1_8 := x1.below b8 (by omega)
  clear x1
  have kn8 := kn7.next b8
  clear kn7 b8
  clear d0 d1 d2 d3 d4 d5
  obtain ⟨d0, d1, d2, d3, d4, d5, _⟩ := kn8.all
  go_wp2_with fail
  have KT : Hid (∀ W, Below w8.heap.size w8 W → Calls Try.prog 11 #[.agg #[.string nm0, .int .i64 ar0, .slice a0 len0 cap0]] W (TabNew nm0 ar0 z0 W)) := fun W b => toTable_any nm0 ar0 a0 len0 cap0 w.heap.size z0 W (r0.belowB (kn8.next b).bel (Nat.le_refl _)) (kn8.next b).bel.size h0 hrow0.out
  have KE : Hid (∀ W A c', Below w8.heap.size w8 W → RdR W W.heap.size A z0.length z0 → Calls Try.prog 13 #[.agg #[.string nm0, .int .i64 ar0, .slice Ax0 z0.length cx0], .agg #[.string nm0, .int .i64 ar0, .slice A z0.length c']] W fun e w' => e = .returned (.bool true) ∧ Below W.heap.size W w') := fun W A c' b h => eqTable_same _ _ _ _ _ _ _ _ _ _ _ W ((x0_8.rd rfl).belowB b (by omega)) h (Nat.le_trans (by omega) b.size) (Nat.le_refl _) hb0
  go_wp2_with fail
  have bz : Below w8.heap.size w8 w8.drew := (Below.refl _ _).drew
  go_region_held3 (fun W => W.cell? ⟨w.heap.size, 0, none⟩ = some (.string nm0) ∧ W.cell? ⟨w.heap.size, 1, none⟩ = some (.int .i64 ar0) ∧ W.cell? ⟨w.heap.size, 2, none⟩ = some (.slice a0 len0 cap0) ∧ W.cell? ⟨w5.heap.size, 0, none⟩ = some (.string nm0) ∧ W.cell? ⟨w5.heap.size, 1, none⟩ = some (.int .i64 ar0) ∧ W.cell? ⟨w5.heap.size, 2, none⟩ = some (.slice Ax0 z0.length cx0) ∧ Below w8.heap.size w8 W)
    (first | assumption | exact Kn.allB kn8 (by assumption))
    (first | (go_at_call 11; ((with_reducible refine (KT.out _ (by assumption)).mono ?_); rintro e w1 ⟨A', c', rfl, ho, b1⟩; have bz := bel_step (by assumption) b1; have rd := ho.rd rfl; clear ho)) | (go_at_call 13; ((with_reducible refine (KE.out _ _ _ (by assumption) (by assumption)).mono ?_); rintro e w9 ⟨rfl, b1⟩; have bz := bel_step (by assumption) b1)))
  have b9 := bz
  have s9 := b9.size
  have x0_9 := x0_8.below b9 (by omega)
  clear x0_8
  have x1_9 := x1_8.below b9 (by omega)
  clear x1_8
  have kn9 := kn8.next b9
  clear kn8 b9
  clear d0 d1 d2 d3 d4 d5
  obtain ⟨d0, d1, d2, d3, d4, d5, _⟩ := kn9.all
  clear KT KE
  clear x0_9
  go_wp2_with fail
  with_reducible refine (toIntS_any a1 len1 cap1 w.heap.size l1 w9 (r1.belowB kn9.bel (Nat.le_refl _)) kn9.bel.size h1).mono ?_
  rintro e w10 ⟨rfl, y1, b10⟩
  have s10 := b10.size
  have x1_10 := x1_9.below b10 (by omega)
  clear x1_9
  have kn10 := kn9.next b10
  clear kn9 b10
  clear d0 d1 d2 d3 d4 d5
  obtain ⟨d0, d1, d2, d3, d4, d5, _⟩ := kn10.all
  go_wp2_with fail
  with_reducible refine (eqIntS_same _ _ _ _ _ _ _ _ _ _ (x1_10.rd hl1.out) (y1.rd hl1.out) (by omega) (by omega) hb1).mono ?_
  rintro e w11 ⟨rfl, b11⟩
  have s11 := b11.size
  have x1_11 := x1_10.below b11 (by omega)
  clear x1_10
  have y1_11 := y1.below b11 (by omega)
  clear y1
  have kn11 := kn10.next b11
  clear kn10 b11
  clear d0 d1 d2 d3 d4 d5
  obtain ⟨d0, d1, d2, d3, d4, d5, _⟩ := kn11.all
  clear y1_11
  clear x1_11
  go_wp2_with fail
  go_ret
  exact ⟨rfl, kn11.bel⟩
end Go.Proofs.Ytanlhbmpjfamkaa
