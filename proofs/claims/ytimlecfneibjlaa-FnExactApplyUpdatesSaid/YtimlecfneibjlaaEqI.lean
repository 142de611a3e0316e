/- slices.Equal at []int. No condition but the size that the laws let in. -/
import Derived.Test.YtimlecfneibjlaaTab
namespace Go.Proofs.Ytimlecfneibjlaa
open Go.RowKit Go.Deep

set_option maxRecDepth 100000 in
set_option maxHeartbeats 400000 in
theorem slicesEqual_q (A A' : Option Addr) (n c n' c' : Nat) (zs zs' : List Int) (w : World) (hr : RdI w w.heap.size A n zs) (hr' : RdI w w.heap.size A' n' zs') (hn : n ≤ 9223372036854775807) (hn' : n' ≤ 9223372036854775807) :
    Calls Try.prog 83 #[.slice A n c, .slice A' n' c'] w fun e w' => e = .returned (.bool (decide (zs = zs'))) ∧ Qt w w' := by
  by_cases hne : n = n'
  · subst hne
    go_enter Try.func83, Try.ntmps83
    go_wp2
    go_loopw [13] (fun i wr => ∃ k : Nat, k ≤ n ∧ i = .int .i64 k ∧ Hid (zs.take k = zs'.take k) ∧ Qt w wr) (fun i _ => n - (intOf i).toNat)
    case atStart => exact ⟨0, by omega, rfl, rfl, Qt.refl _⟩
    case round =>
      obtain ⟨k, hk, rfl, hpre, hbel⟩ := hrel
      by_cases hlt : k < n
      · obtain ⟨b, o, x, rfl, _, hx, hc⟩ := hr.at_ hlt
        obtain ⟨b', o', x', rfl, _, hx', hc'⟩ := hr'.at_ hlt
        have hc1 := (hbel.cell (p := ⟨b, o + k, none⟩)).trans hc
        have hc2 := (hbel.cell (p := ⟨b', o' + k, none⟩)).trans hc'
        have g1 : (0 : Int) ≤ (k : Int) := by omega
        have g2 : (k : Int) < (n : Int) := by omega
        have g3 : (k : Int).toNat = k := by omega
        have HX := Lib.hid hx
        have HX' := Lib.hid hx'
        clear hx hx' hc hc'
        by_cases he : x = x'
        · have hpre' : Hid (zs.take (k + 1) = zs'.take (k + 1)) := by
            show zs.take (k + 1) = zs'.take (k + 1)
            rw [List.take_add_one, List.take_add_one, HX.out, HX'.out, he, hpre.out]
          have hbq : (x != x') = false := by simp [he]
          clear he
          go_wp2_with fail
          go_quiet (fail)
          clear g3
          go_wp2
          refine ⟨⟨k + 1, by omega, by go_num, hpre', hbel.drewN _⟩, ?_⟩
          simp [intOf]
          omega
        · have hfin : Hid (decide (zs = zs') = false) := by
            show decide (zs = zs') = false
            rw [decide_eq_false_iff_not]
            rintro rfl
            have h1 := HX.out
            rw [HX'.out] at h1
            exact he (by injection h1 with h1; exact h1.symm)
          have hbq : (x != x') = true := by simpa using he
          clear he
          go_wp2_with fail
          go_quiet (fail)
          clear g3
          go_wp2
          go_ret
          exact ⟨by rw [hfin.out] <;> rfl, hbel.drewN _⟩
      · obtain rfl : k = n := by omega
        have hfin : Hid (decide (zs = zs') = true) := by
          show decide (zs = zs') = true
          rw [decide_eq_true_eq]
          have h1 := hpre.out
          rwa [List.take_of_length_le (Nat.le_of_eq hr.1), List.take_of_length_le (Nat.le_of_eq hr'.1)] at h1
        go_wp2
        go_ret
        exact ⟨by rw [hfin.out] <;> rfl, hbel⟩
  · have hfin : Hid (decide (zs = zs') = false) := by
      show decide (zs = zs') = false
      rw [decide_eq_false_iff_not]
      rintro rfl
      exact hne (hr.1.symm.trans hr'.1)
    have hbq : ((n : Int) != (n' : Int)) = true := by simp; omega
    clear hne
    go_enter Try.func83, Try.ntmps83
    go_wp2
    go_ret
    exact ⟨by rw [hfin.out] <;> rfl, Qt.refl _⟩

theorem Qt.rdI {w w' : World} {A : Option Addr} {n : Nat} {zs : List Int} (hq : Qt w w') (h : RdI w w.heap.size A n zs) : RdI w' w'.heap.size A n zs := by
  have := h.below (hq.below _)
  rwa [← hq.heap] at this
theorem Qt.rdR {w w' : World} {A : Option Addr} {n : Nat} {zs : List (List Int)} (hq : Qt w w') (h : RdR w w.heap.size A n zs) : RdR w' w'.heap.size A n zs := by
  have := RdR.belowB h (hq.below w.heap.size) (Nat.le_refl _)
  rwa [← hq.heap] at this

end Go.Proofs.Ytimlecfneibjlaa
