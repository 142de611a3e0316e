/- The walk of the law on FormatDatabase. No condition. -/
import Derived.Test.YtmojjbhjjhdpaaaDoorDFmtI
import Derived.Test.YtmojjbhjjhdpaaaDoorDbW
import Derived.Test.YtmojjbhjjhdpaaaDoorKn
import Derived.Deep.RegionHeld3
import Derived.Deep.DeepCutAuto
namespace Go.Proofs.YtmojjbhjjhdpaaaDoor
open Go.RowKit Go.Deep
set_option maxRecDepth 100000 in
set_option maxHeartbeats 4000000 in
theorem formatDatabase_walk (a0 : Option Addr) (len0 cap0 : Nat) (z0 : List Tab) (w : World) (ht : Tb w) (ll0 : len0 ≤ maxLen) (r0 : RdT w w.heap.size a0 len0 z0) :
    Calls Tryd.prog 9 #[.agg #[.slice a0 len0 cap0]] w fun e w' => e = .returned (.bool true) ∧ Below w.heap.size w w' := by
  have kn0 : Kn w [(w.heap.size, 0, .slice a0 len0 cap0)] (w.alloc (.cells #[.slice a0 len0 cap0] 50)) := by simpa using ((Kn.start w).box1 (.slice a0 len0 cap0) 50)
  unfold maxLen at ll0
  go_enter Tryd.func9, Tryd.ntmps9
  go_wp2_with fail
  have s0 : w.heap.size + 1 ≤ (w.alloc (.cells #[.slice a0 len0 cap0] 50)).heap.size := by simp
  generalize w.alloc (.cells #[.slice a0 len0 cap0] 50) = w0 at kn0 s0 ⊢
  with_reducible refine (szDatabase_any a0 len0 cap0 w.heap.size _ z0 w0 (r0.belowB kn0.bel (Nat.le_refl _)) kn0.bel.size (by omega) (by omega) (by omega)).mono ?_
  rintro e w1 ⟨sa, rfl, hsa, b1⟩
  have s1 := b1.size
  have kn1 := kn0.next b1
  clear kn0 b1
  obtain ⟨d0, _⟩ := kn1.all
  rcases hsa with rfl | ⟨hsa, hza⟩
  · go_wp2_with fail
    go_ret
    exact ⟨rfl, kn1.bel⟩
  have qsa : ¬ sa < 0 := by omega
  have qta : sa ≤ 1048576 := by omega
  have HZa := Lib.hid hza
  clear hza
  have hza := HZa.out
  have h0 : len0 ≤ 1048576 := by omega
  have hdb0 : Hid (sumT z0 ≤ 1048576) := by show _ ≤ _; omega
  clear hza HZa
  have hl0 := Lib.hid r0.1
  have hb0 : z0.length ≤ 1048576 := by rw [hl0.out]; exact h0
  have hrs0 : Hid (∀ t ∈ z0, t.rs.length ≤ 1048576) := fun t ht => (sumT_small hdb0.out t ht).1
  have hm0 : mrkT z0 ≤ 4194304 := by have := mrkT_le z0; have := hdb0.out; omega
  have KS : Hid (∀ A c W, RdT W W.heap.size A z0.length z0 → Calls Tryd.prog 33 #[.agg #[.slice A z0.length c]] W fun e w' => e = .returned (.string (fmtD z0)) ∧ Below W.heap.size W w') := fun A c W h => spec_FormatDatabase_any A _ c _ z0 W h (Nat.le_refl _) (by omega) hdb0.out
  have KI : Hid (∀ A c W, Below w.heap.size w W → RdT W W.heap.size A z0.length z0 → Calls Tryd.prog 35 #[.agg #[.slice A z0.length c]] W fun e w' => e = .returned (.string (fmtD z0)) ∧ Below W.heap.size W w') := fun A c W b h => impl_FormatDatabase_any A _ c _ z0 W (ht.on b) h (Nat.le_refl _) (by omega) hdb0.out
  generalize (fmtD z0) = bq at KS KI
  have qq : (bq.toList != bq.toList) = false := by simp
  go_wp2_with fail
  with_reducible refine (toDatabase_any a0 len0 cap0 w.heap.size z0 w1 (r0.belowB kn1.bel (Nat.le_refl _)) kn1.bel.size h0 hdb0.out).mono ?_
  rintro e w2 ⟨Ao0, co0, rfl, o0, b2⟩
  have s2 := b2.size
  have kn2 := kn1.next b2
  clear kn1 b2
  clear d0
  obtain ⟨d0, _⟩ := kn2.all
  go_wp2_with fail
  with_reducible refine (KS.out _ _ _ ((o0.rd rfl).more (by omega))).mono ?_
  rintro e w3 ⟨rfl, b3⟩
  have s3 := b3.size
  have o0_3 := o0.below b3 (by omega)
  clear o0
  have kn3 := kn2.next b3
  clear kn2 b3
  clear d0
  obtain ⟨d0, _⟩ := kn3.all
  clear o0_3
  go_wp2_with fail
  with_reducible refine (toDatabase_any a0 len0 cap0 w.heap.size z0 w3 (r0.belowB kn3.bel (Nat.le_refl _)) kn3.bel.size h0 hdb0.out).mono ?_
  rintro e w4 ⟨Ax0, cx0, rfl, x0, b4⟩
  have s4 := b4.size
  have kn4 := kn3.next b4
  clear kn3 b4
  clear d0
  obtain ⟨d0, _⟩ := kn4.all
  have ne0 : w.heap.size < w4.heap.size := by omega
  go_wp2_with fail
  clear ne0
  have kn5 : Kn w [(w.heap.size, 0, .slice a0 len0 cap0), (w4.heap.size, 0, .slice Ax0 z0.length cx0)] (w4.alloc (.cells #[.slice Ax0 z0.length cx0] 55)) := kn4.box1 (.slice Ax0 z0.length cx0) 55
  have s5 : w4.heap.size + 1 ≤ (w4.alloc (.cells #[.slice Ax0 z0.length cx0] 55)).heap.size := by simp
  have x0_5 := x0.below ((Below.refl _ _).alloc (Nat.le_refl _) (.cells #[.slice Ax0 z0.length cx0] 55)) (by omega)
  clear x0
  clear kn4
  clear d0
  generalize w4.alloc (.cells #[.slice Ax0 z0.length cx0] 55) = w5 at kn5 s5 x0_5 ⊢
  obtain ⟨d0, d1, _⟩ := kn5.all
  go_wp2_with fail
  with_reducible refine (KI.out _ _ _ kn5.bel ((x0_5.rd rfl).more (by omega))).mono ?_
  rintro e w6 ⟨rfl, b6⟩
  have s6 := b6.size
  have x0_6 := x0_5.below b6 (by omega)
  clear x0_5
  have kn6 := kn5.next b6
  clear kn5 b6
  clear d0 d1
  obtain ⟨d0, d1, _⟩ := kn6.all
  go_wp2_with fail
  have KT : Hid (∀ W, Below w6.heap.size w6 W → Calls Tryd.prog 34 #[.agg #[.slice a0 len0 cap0]] W (DbNew z0 W)) := fun W b => toDatabase_any a0 len0 cap0 w.heap.size z0 W (r0.belowB (kn6.next b).bel (Nat.le_refl _)) (kn6.next b).bel.size h0 hdb0.out
  have KE : Hid (∀ W A c', Below w6.heap.size w6 W → RdT W W.heap.size A z0.length z0 → Calls Tryd.prog 36 #[.agg #[.slice Ax0 z0.length cx0], .agg #[.slice A z0.length c']] W fun e w' => e = .returned (.bool true) ∧ Below W.heap.size W w') := fun W A c' b h => eqDatabase_same _ _ _ _ _ _ _ _ _ W ((x0_6.rd rfl).belowB b (by omega)) h (Nat.le_trans (by omega) b.size) (Nat.le_refl _) hb0
  go_wp2_with fail
  have bz : Below w6.heap.size w6 w6.drew := (Below.refl _ _).drew
  go_region_held3 (fun W => W.cell? ⟨w.heap.size, 0, none⟩ = some (.slice a0 len0 cap0) ∧ W.cell? ⟨w4.heap.size, 0, none⟩ = some (.slice Ax0 z0.length cx0) ∧ Below w6.heap.size w6 W)
    (first | assumption | exact Kn.allB kn6 (by assumption))
    (first | (go_at_call 34; ((with_reducible refine (KT.out _ (by assumption)).mono ?_); rintro e w1 ⟨A', c', rfl, ho, b1⟩; have bz := bel_step (by assumption) b1; have rd := ho.rd rfl; clear ho)) | (go_at_call 36; ((with_reducible refine (KE.out _ _ _ (by assumption) (by assumption)).mono ?_); rintro e w7 ⟨rfl, b1⟩; have bz := bel_step (by assumption) b1)))
  have b7 := bz
  have s7 := b7.size
  have x0_7 := x0_6.below b7 (by omega)
  clear x0_6
  have kn7 := kn6.next b7
  clear kn6 b7
  clear d0 d1
  obtain ⟨d0, d1, _⟩ := kn7.all
  clear KT KE
  clear x0_7
  go_wp2_with fail
  go_ret
  exact ⟨rfl, kn7.bel⟩
end Go.Proofs.YtmojjbhjjhdpaaaDoor
