/- The laws' helper eqIntSS; slices.Equal at []int. No condition. -/
import Derived.Test.YtmojjbhjjhdpaaaDoorRow
import Derived.Test.YtmojjbhjjhdpaaaDoorCmp
namespace Go.Proofs.YtmojjbhjjhdpaaaDoor
open Go.RowKit Go.Deep

theorem eqIntS_yes (A A' : Option Addr) (c c' : Nat) (zs : List Int) (w : World) (hr : RdI w w.heap.size A zs.length zs) (hr' : RdI w w.heap.size A' zs.length zs) (hn : zs.length ≤ maxLen) :
    Calls Tryd.prog 117 #[.slice A zs.length c, .slice A' zs.length c'] w fun e w' => e = .returned (.bool true) ∧ Qt w w' :=
  (eqIntS_q A A' _ c _ c' zs zs w hr hr' (by unfold maxLen at hn; omega) (by unfold maxLen at hn; omega)).mono fun _ _ ⟨he, hq⟩ => ⟨by rw [he]; simp, hq⟩
theorem eqIntS_no (A A' : Option Addr) (c c' : Nat) (zs zs' : List Int) (w : World) (hr : RdI w w.heap.size A zs.length zs) (hr' : RdI w w.heap.size A' zs'.length zs') (hn : zs.length ≤ maxLen) (hn' : zs'.length ≤ maxLen) (h : ¬ zs = zs') :
    Calls Tryd.prog 117 #[.slice A zs.length c, .slice A' zs'.length c'] w fun e w' => e = .returned (.bool false) ∧ Qt w w' :=
  (eqIntS_q A A' _ c _ c' zs zs' w hr hr' (by unfold maxLen at hn; omega) (by unfold maxLen at hn'; omega)).mono fun _ _ ⟨he, hq⟩ => ⟨by rw [he]; simp [h], hq⟩

set_option maxRecDepth 100000 in
set_option maxHeartbeats 400000 in
theorem eqIntSS_q (A A' : Option Addr) (n c n' c' : Nat) (zs zs' : List (List Int)) (w : World) (hr : RdR w w.heap.size A n zs) (hr' : RdR w w.heap.size A' n' zs') (hn : n ≤ 9223372036854775807) (hn' : n' ≤ 9223372036854775807) :
    Calls Tryd.prog 77 #[.slice A n c, .slice A' n' c'] w fun e w' => e = .returned (.bool (decide (zs = zs'))) ∧ Qt w w' := by
  by_cases hne : n = n'
  · subst hne
    go_enter Tryd.func77, Tryd.ntmps77
    go_wp2
    go_loopw [5] (fun i wr => ∃ k : Nat, k ≤ n ∧ i = .int .i64 k ∧ Hid (zs.take k = zs'.take k) ∧ Qt w wr) (fun i _ => n - (intOf i).toNat)
    case atStart => exact ⟨0, by omega, rfl, rfl, Qt.refl _⟩
    case round =>
      obtain ⟨k, hk, rfl, hpre, hbel⟩ := hrel
      by_cases hlt : k < n
      · obtain ⟨b, o, x, A1, c1, rfl, _, hx, hc, hrd, hm⟩ := RdR.at_ hr hlt
        obtain ⟨b', o', x', A2, c2, rfl, _, hx', hc', hrd', hm'⟩ := RdR.at_ hr' hlt
        have hc1 := (hbel.cell (p := ⟨b, o + k, none⟩)).trans hc
        have hc2 := (hbel.cell (p := ⟨b', o' + k, none⟩)).trans hc'
        have g1 : (0 : Int) ≤ (k : Int) := by omega
        have g2 : (k : Int) < (n : Int) := by omega
        have g3 : (k : Int).toNat = k := by omega
        have HX := Lib.hid hx
        have HX' := Lib.hid hx'
        have hrd1 : RdI wr wr.heap.size A1 x.length x := by have := hrd.below (hbel.below _); rwa [← hbel.heap] at this
        have hrd2 : RdI wr wr.heap.size A2 x'.length x' := by have := hrd'.below (hbel.below _); rwa [← hbel.heap] at this
        clear hx hx' hc hc' hrd hrd'
        by_cases he : x = x'
        · have hpre' : Hid (zs.take (k + 1) = zs'.take (k + 1)) := by
            show zs.take (k + 1) = zs'.take (k + 1)
            rw [List.take_add_one, List.take_add_one, HX.out, HX'.out, he, hpre.out]
          subst he
          have KE := Lib.hid (fun q => eqIntS_yes A1 A2 c1 c2 x (wr.drewN q) hrd1 hrd2 hm)
          clear hrd1 hrd2
          go_wp2_with fail
          go_quiet ((go_at_call 117; exact Calls.quiet_of (KE.out _)))
          clear g3
          go_wp2_with fail
          refine ⟨⟨k + 1, by omega, by go_num, hpre', hbel.drewN _⟩, ?_⟩
          simp [intOf]
          omega
        · have hfin : Hid (decide (zs = zs') = false) := by
            show decide (zs = zs') = false
            rw [decide_eq_false_iff_not]
            rintro rfl
            have h1 := HX.out
            rw [HX'.out] at h1
            exact he (by injection h1 with h1; exact h1.symm)
          have KE := Lib.hid (fun q => eqIntS_no A1 A2 c1 c2 x x' (wr.drewN q) hrd1 hrd2 hm hm' he)
          clear he hrd1 hrd2
          go_wp2_with fail
          go_quiet ((go_at_call 117; exact Calls.quiet_of (KE.out _)))
          clear g3
          go_wp2_with fail
          go_ret
          exact ⟨by rw [hfin.out] <;> rfl, hbel.drewN _⟩
      · obtain rfl : k = n := by omega
        have hfin : Hid (decide (zs = zs') = true) := by
          show decide (zs = zs') = true
          rw [decide_eq_true_eq]
          have h1 := hpre.out
          rwa [List.take_of_length_le (Nat.le_of_eq hr.1), List.take_of_length_le (Nat.le_of_eq hr'.1)] at h1
        go_wp2
        go_ret
        exact ⟨by rw [hfin.out] <;> rfl, hbel⟩
  · have hfin : Hid (decide (zs = zs') = false) := by
      show decide (zs = zs') = false
      rw [decide_eq_false_iff_not]
      rintro rfl
      exact hne (hr.1.symm.trans hr'.1)
    have hbq : ((n : Int) != (n' : Int)) = true := by simp; omega
    clear hne
    go_enter Tryd.func77, Tryd.ntmps77
    go_wp2
    go_ret
    exact ⟨by rw [hfin.out] <;> rfl, Qt.refl _⟩
end Go.Proofs.YtmojjbhjjhdpaaaDoor
