/- EqualTables: both texts. No condition but the size that the laws let in. -/
import Derived.Test.YtkpnpainpkjamaaEqT
namespace Go.Proofs.Ytkpnpainpkjamaa
open Go.RowKit Go.Deep

/-- Two tables are the same. -/
def eqT (nm nm' : ByteArray) (ar ar' : Int) (rs rs' : List (List Int)) : Bool := decide (nm = nm' ∧ ar = ar' ∧ rs = rs')

set_option maxRecDepth 100000 in
set_option maxHeartbeats 400000 in
theorem impl_EqualTables_any (nm nm' : ByteArray) (ar ar' : Int) (A A' : Option Addr) (n c n' c' B B' : Nat) (rs rs' : List (List Int)) (w : World) (hr : RdR w B A n rs) (hr' : RdR w B' A' n' rs') (hB : B ≤ w.heap.size) (hB' : B' ≤ w.heap.size) (hn : n ≤ 9223372036854775807) (hn' : n' ≤ 9223372036854775807) :
    Calls Try.prog 35 #[.agg #[.string nm, .int .i64 ar, .slice A n c], .agg #[.string nm', .int .i64 ar', .slice A' n' c']] w fun e w' => e = .returned (.bool (eqT nm nm' ar ar' rs rs')) ∧ Below w.heap.size w w' := by
  have HB := Lib.hid (Below.refl w.heap.size w)
  by_cases h1 : nm = nm'
  · subst h1
    by_cases h2 : ar = ar'
    · subst h2
      have hf : Hid (eqT nm nm ar ar rs rs' = decide (rs = rs')) := by show _ = _; simp [eqT]
      go_enter Try.func35, Try.ntmps35
      go_wp2_with fail
      refine (equalRows_q A A' n c n' c' rs rs' _ ((RdR.belowB hr (((Below.refl B w).alloc hB _).alloc (by simp; omega) _) (Nat.le_refl _)).more (by simp; omega)) ((RdR.belowB hr' (((Below.refl B' w).alloc hB' _).alloc (by simp; omega) _) (Nat.le_refl _)).more (by simp; omega)) hn hn').mono ?_
      rintro e w1 ⟨rfl, hq⟩
      have hbel := Lib.hid ((((HB.out).alloc (Nat.le_refl _) _).alloc (by simp) _).trans (hq.below _))
      clear hq
      go_wp2_with fail
      go_ret
      exact ⟨by rw [hf.out] <;> rfl, hbel.out⟩
    · have hf : Hid (eqT nm nm ar ar' rs rs' = false) := by show _ = _; simp [eqT, h2]
      have q2 : (ar == ar') = false := by simpa using h2
      clear h2
      go_enter Try.func35, Try.ntmps35
      go_wp2_with fail
      go_ret
      exact ⟨by rw [hf.out] <;> rfl, ((HB.out).alloc (Nat.le_refl _) _).alloc (by simp) _⟩
  · have hf : Hid (eqT nm nm' ar ar' rs rs' = false) := by show _ = _; simp [eqT, h1]
    have q1 := str_eq0 h1
    clear h1
    go_enter Try.func35, Try.ntmps35
    go_wp2_with fail
    go_ret
    exact ⟨by rw [hf.out] <;> rfl, ((HB.out).alloc (Nat.le_refl _) _).alloc (by simp) _⟩

set_option maxRecDepth 100000 in
set_option maxHeartbeats 1000000 in
theorem spec_EqualTables_any (nm nm' : ByteArray) (ar ar' : Int) (A A' : Option Addr) (n c n' c' B B' : Nat) (rs rs' : List (List Int)) (w : World) (hr : RdR w B A n rs) (hr' : RdR w B' A' n' rs') (hB : B ≤ w.heap.size) (hB' : B' ≤ w.heap.size) (hn : n ≤ 9223372036854775807) (hn' : n' ≤ 9223372036854775807) :
    Calls Try.prog 32 #[.agg #[.string nm, .int .i64 ar, .slice A n c], .agg #[.string nm', .int .i64 ar', .slice A' n' c']] w fun e w' => e = .returned (.bool (eqT nm nm' ar ar' rs rs')) ∧ Below w.heap.size w w' := by
  have HB := Lib.hid (Below.refl w.heap.size w)
  by_cases h1 : nm = nm'
  · subst h1
    by_cases h2 : ar = ar'
    · subst h2
      by_cases hne : n = n'
      · subst hne
        have hf : Hid (eqT nm nm ar ar rs rs' = decide (rs = rs')) := by show _ = _; simp [eqT]
        have q2 : (ar != ar) = false := by simp
        have q3 : ((n : Int) != (n : Int)) = false := by simp
        go_enter Try.func32, Try.ntmps32
        go_wp2_with fail
        generalize hW : (w.alloc (.cells #[.string nm, .int .i64 ar, .slice A n c] 37)).alloc (.cells #[.string nm, .int .i64 ar, .slice A' n c'] 37) = W
        have hWb : Hid (Below w.heap.size w W) := by rw [← hW]; exact ((HB.out).alloc (Nat.le_refl _) _).alloc (by simp) _
        have w1 : W.cell? ⟨w.heap.size, 2, none⟩ = some (.slice A n c) := by rw [← hW]; simp [go_sem]
        have w2 : W.cell? ⟨w.heap.size + 1, 2, none⟩ = some (.slice A' n c') := by rw [← hW]; simp [go_sem]
        have hr1 : RdR W W.heap.size A n rs := by rw [← hW]; exact (RdR.belowB hr (((Below.refl B w).alloc hB _).alloc (by simp; omega) _) (Nat.le_refl _)).more (by simp; omega)
        have hr2 : RdR W W.heap.size A' n rs' := by rw [← hW]; exact (RdR.belowB hr' (((Below.refl B' w).alloc hB' _).alloc (by simp; omega) _) (Nat.le_refl _)).more (by simp; omega)
        clear hW hr hr'
        go_loopw [5] (fun i wr => ∃ k : Nat, k ≤ n ∧ i = .int .i64 k ∧ Hid (rs.take k = rs'.take k) ∧ Qt W wr) (fun i _ => n - (intOf i).toNat)
        case atStart => exact ⟨0, by omega, rfl, rfl, Qt.refl _⟩
        case round =>
          obtain ⟨k, hk, rfl, hpre, hbel⟩ := hrel
          have c1 := (hbel.cell (p := ⟨w.heap.size, 2, none⟩)).trans w1
          have c2 := (hbel.cell (p := ⟨w.heap.size + 1, 2, none⟩)).trans w2
          by_cases hlt : k < n
          · obtain ⟨b, o, x, A1, cc1, rfl, _, hx, hc, hrd, hm⟩ := RdR.at_ hr1 hlt
            obtain ⟨b', o', x', A2, cc2, rfl, _, hx', hc', hrd', hm'⟩ := RdR.at_ hr2 hlt
            have hc1 := (hbel.cell (p := ⟨b, o + k, none⟩)).trans hc
            have hc2 := (hbel.cell (p := ⟨b', o' + k, none⟩)).trans hc'
            have g1 : (0 : Int) ≤ (k : Int) := by omega
            have g2 : (k : Int) < (n : Int) := by omega
            have g3 : (k : Int).toNat = k := by omega
            have HX := Lib.hid hx
            have HX' := Lib.hid hx'
            have KE := Lib.hid (fun q => spec_CompareRows_q A1 A2 x.length cc1 x'.length cc2 x x' (wr.drewN q) (hbel.rdI hrd) (hbel.rdI hrd') (by unfold maxLen at hm; omega) (by unfold maxLen at hm'; omega))
            clear hx hx' hc hc' hrd hrd'
            by_cases he : x = x'
            · have hpre' : Hid (rs.take (k + 1) = rs'.take (k + 1)) := by
                show rs.take (k + 1) = rs'.take (k + 1)
                rw [List.take_add_one, List.take_add_one, HX.out, HX'.out, he, hpre.out]
              have KE' : Hid (∀ q, Calls Try.prog 54 #[.slice A1 x.length cc1, .slice A2 x'.length cc2] (wr.drewN q) fun e w' => e = .returned (.int .i64 0) ∧ Qt (wr.drewN q) w') := fun q => (KE.out q).mono fun _ _ ⟨h, hq⟩ => ⟨by rw [h, cmpL_zero.2 he], hq⟩
              clear he KE
              go_wp2_with fail
              go_quiet ((go_at_call 54; exact Calls.quiet_of (KE'.out _)))
              clear g3
              go_wp2_with fail
              refine ⟨⟨k + 1, by omega, by go_num, hpre', hbel.drewN _⟩, ?_⟩
              simp [intOf]
              omega
            · have hfin : Hid (decide (rs = rs') = false) := by
                show decide (rs = rs') = false
                rw [decide_eq_false_iff_not]
                rintro rfl
                have h1 := HX.out
                rw [HX'.out] at h1
                exact he (by injection h1 with h1; exact h1.symm)
              obtain ⟨y, hy⟩ : ∃ y, y = cmpL x x' := ⟨_, rfl⟩
              have hy0 : (y != 0) = true := by
                rw [hy]
                have := mt cmpL_zero.1 he
                simpa using this
              rw [← hy] at KE
              clear hy he
              go_wp2_with fail
              go_quiet ((go_at_call 54; exact Calls.quiet_of (KE.out _)))
              clear g3
              go_wp2_with fail
              go_ret
              exact ⟨by rw [hf.out, hfin.out] <;> rfl, hWb.out.trans ((hbel.drewN _).below _)⟩
          · obtain rfl : k = n := by omega
            have hfin : Hid (decide (rs = rs') = true) := by
              show decide (rs = rs') = true
              rw [decide_eq_true_eq]
              have h1 := hpre.out
              rwa [List.take_of_length_le (Nat.le_of_eq hr1.1), List.take_of_length_le (Nat.le_of_eq hr2.1)] at h1
            go_wp2_with fail
            go_ret
            exact ⟨by rw [hf.out, hfin.out] <;> rfl, hWb.out.trans (hbel.below _)⟩
      · have hf : Hid (eqT nm nm ar ar rs rs' = false) := by
          have : ¬ rs = rs' := fun e => hne (by rw [← hr.1, ← hr'.1, e])
          show _ = _
          simp [eqT, this]
        have q2 : (ar != ar) = false := by simp
        have q3 : ((n : Int) != (n' : Int)) = true := by simp; omega
        clear hne
        go_enter Try.func32, Try.ntmps32
        go_wp2_with fail
        go_ret
        exact ⟨by rw [hf.out] <;> rfl, ((HB.out).alloc (Nat.le_refl _) _).alloc (by simp) _⟩
    · have hf : Hid (eqT nm nm ar ar' rs rs' = false) := by show _ = _; simp [eqT, h2]
      have q2 : (ar != ar') = true := by simpa using h2
      clear h2
      go_enter Try.func32, Try.ntmps32
      go_wp2_with fail
      go_ret
      exact ⟨by rw [hf.out] <;> rfl, ((HB.out).alloc (Nat.le_refl _) _).alloc (by simp) _⟩
  · have hf : Hid (eqT nm nm' ar ar' rs rs' = false) := by show _ = _; simp [eqT, h1]
    have q1 := str_ne1 h1
    have q2 := str_eq0 h1
    have q3 := str_ne h1
    clear h1
    go_enter Try.func32, Try.ntmps32
    go_wp2_with fail
    go_ret
    exact ⟨by rw [hf.out] <;> rfl, ((HB.out).alloc (Nat.le_refl _) _).alloc (by simp) _⟩
end Go.Proofs.Ytkpnpainpkjamaa
