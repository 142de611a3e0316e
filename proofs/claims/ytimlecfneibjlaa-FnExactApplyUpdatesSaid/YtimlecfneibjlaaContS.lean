/- spec.ContainsRow. No condition but the size that the laws let in. -/
import Derived.Test.YtimlecfneibjlaaCont
import Derived.Test.YtimlecfneibjlaaKn
namespace Go.Proofs.Ytimlecfneibjlaa
open Go.RowKit Go.Deep

set_option maxRecDepth 100000 in
set_option maxHeartbeats 1000000 in
theorem spec_ContainsRow_any (nm : ByteArray) (ar : Int) (A A' : Option Addr) (n c n' c' B : Nat) (rs : List (List Int)) (r : List Int) (w : World) (hr : RdR w B A n rs) (hr' : RdI w B A' n' r) (hB : B ≤ w.heap.size) (hn : n ≤ 9223372036854775806) (hn' : n' ≤ 9223372036854775806) :
    Calls Try.prog 105 #[.agg #[.string nm, .int .i64 ar, .slice A n c], .slice A' n' c'] w fun e w' => e = .returned (.bool (contB nm ar rs r)) ∧ Below w.heap.size w w' := by
  have HL := Lib.hid hr.1
  have kn0 : Kn w [(w.heap.size, 0, .string nm), (w.heap.size, 1, .int .i64 ar), (w.heap.size, 2, .slice A n c)] (w.alloc (.cells #[.string nm, .int .i64 ar, .slice A n c] 36)) := by simpa using (Kn.start w).box3 (.string nm) (.int .i64 ar) (.slice A n c) 36
  have KV := Lib.hid (fun W (kn : Kn w [(w.heap.size, 0, .string nm), (w.heap.size, 1, .int .i64 ar), (w.heap.size, 2, .slice A n c)] W) => spec_IsValidTable_any nm ar A n c B rs W (RdR.belowB hr kn.bel hB) (Nat.le_trans hB kn.bel.size) hn)
  cases hv : validT nm ar rs with
  | false =>
    have hf : Hid (contB nm ar rs r = false) := by show _ = _; rw [contB, hv]; rfl
    rw [hv] at KV
    clear hv
    go_enter Try.func105, Try.ntmps105
    go_wp2_with fail
    generalize w.alloc (.cells #[.string nm, .int .i64 ar, .slice A n c] 36) = W at kn0 ⊢
    go_loopw [5] (fun i wr => i = .int .i64 0 ∧ wr = W) (fun i _ => 0)
    case atStart => exact ⟨rfl, rfl⟩
    case round =>
      obtain ⟨rfl, rfl⟩ := hrel
      obtain ⟨d0, d1, d2, _⟩ := kn0.all
      by_cases h0 : 0 < n
      · have h0' : (0 : Int) < (n : Int) := by omega
        go_wp2_with fail
        refine (KV.out _ kn0).mono ?_
        rintro e w1 ⟨rfl, hb⟩
        have hbel := Lib.hid (kn0.next hb).bel
        clear hb
        go_wp2_with fail
        go_ret
        exact ⟨by rw [hf.out] <;> rfl, hbel.out⟩
      · obtain rfl : n = 0 := by omega
        have hbel := kn0.bel
        go_wp2_with fail
        go_ret
        exact ⟨by rw [hf.out] <;> rfl, hbel⟩
  | true =>
    have hf : Hid (contB nm ar rs r = decide (r ∈ rs)) := by show _ = _; rw [contB, hv]; rfl
    rw [hv] at KV
    clear hv
    go_enter Try.func105, Try.ntmps105
    go_wp2_with fail
    generalize w.alloc (.cells #[.string nm, .int .i64 ar, .slice A n c] 36) = W at kn0 ⊢
    go_loopw [5] (fun i wr => ∃ k : Nat, k ≤ n ∧ i = .int .i64 k ∧ Hid (∀ j x, j < k → rs[j]? = some x → ¬ x = r) ∧ Kn w [(w.heap.size, 0, .string nm), (w.heap.size, 1, .int .i64 ar), (w.heap.size, 2, .slice A n c)] wr) (fun i _ => n - (intOf i).toNat)
    case atStart => exact ⟨0, by omega, rfl, fun j x h => by omega, kn0⟩
    case round =>
      obtain ⟨k, hk, rfl, hpre, kn⟩ := hrel
      clear kn0
      obtain ⟨d0, d1, d2, _⟩ := kn.all
      by_cases hlt : k < n
      · go_wp2_with fail
        refine (KV.out _ kn).mono ?_
        rintro e w1 ⟨rfl, hb⟩
        have kn1 := kn.next hb
        clear kn hb d0 d1 d2
        obtain ⟨d0, d1, d2, _⟩ := kn1.all
        have hbel := kn1.bel
        obtain ⟨b, o, x, A1, c1, rfl, hb0, hx, hc, hrd, hm⟩ := RdR.at_ (RdR.belowB hr hbel hB) hlt
        have HX := Lib.hid hx
        have hs := hbel.size
        have KE := Lib.hid (spec_CompareRows_q A1 A' x.length c1 n' c' x r w1 (hrd.more (by omega)) ((hr'.belowB hbel hB).more (by omega)) (by unfold maxLen at hm; omega) (by omega))
        clear hx hrd hbel
        by_cases he : x = r
        · have hfin : Hid (decide (r ∈ rs) = true) := by
            show _ = _
            rw [decide_eq_true_eq, ← he]
            exact List.mem_of_getElem? HX.out
          have hcz := Lib.hid (cmpL_zero.2 he)
          clear he
          go_wp2_with fail
          refine KE.out.mono ?_
          rintro e w2 ⟨rfl, hq⟩
          rw [hcz.out]
          have HQ := Lib.hid (kn1.next (hq.below _)).bel
          clear hq
          go_wp2_with fail
          go_ret
          exact ⟨by rw [hf.out, hfin.out] <;> rfl, HQ.out⟩
        · have hpre' : Hid (∀ j x, j < k + 1 → rs[j]? = some x → ¬ x = r) := fun j y hj hy => by
            rcases Nat.lt_or_ge j k with h | h
            · exact hpre.out j y h hy
            · obtain rfl : j = k := by omega
              rw [HX.out] at hy
              injection hy with hy
              rw [← hy]
              exact he
          obtain ⟨y, hy⟩ : ∃ y, y = cmpL x r := ⟨_, rfl⟩
          have hy0 : (y == 0) = false := by rw [hy]; simpa using mt cmpL_zero.1 he
          rw [← hy] at KE
          clear hy he
          go_wp2_with fail
          refine KE.out.mono ?_
          rintro e w2 ⟨rfl, hq⟩
          have HQ := Lib.hid (kn1.next (hq.below _))
          clear hq
          go_wp2_with fail
          refine ⟨⟨k + 1, by omega, by go_num, hpre', HQ.out⟩, ?_⟩
          simp [intOf]
          omega
      · obtain rfl : k = n := by omega
        have hfin : Hid (decide (r ∈ rs) = false) := by
          show _ = _
          rw [decide_eq_false_iff_not]
          intro hmem
          obtain ⟨j, hj⟩ := List.mem_iff_getElem?.1 hmem
          exact hpre.out j r (by have := (List.getElem?_eq_some_iff.1 hj).1; rw [HL.out] at this; exact this) hj rfl
        have hbel := kn.bel
        go_wp2_with fail
        go_ret
        exact ⟨by rw [hf.out, hfin.out] <;> rfl, hbel⟩
end Go.Proofs.Ytimlecfneibjlaa
