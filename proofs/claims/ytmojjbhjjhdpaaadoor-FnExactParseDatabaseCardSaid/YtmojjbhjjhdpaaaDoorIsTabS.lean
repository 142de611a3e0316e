/- spec.IsValidTable. No condition but the size that the laws let in. -/
import Derived.Test.YtmojjbhjjhdpaaaDoorIsTab
namespace Go.Proofs.YtmojjbhjjhdpaaaDoor
open Go.RowKit Go.Deep

set_option maxRecDepth 100000 in
set_option maxHeartbeats 2000000 in
theorem spec_IsValidTable_any (nm : ByteArray) (ar : Int) (A : Option Addr) (n c B : Nat) (rs : List (List Int)) (w : World) (hr : RdR w B A n rs) (hB : B ≤ w.heap.size) (hn : n ≤ 9223372036854775806) :
    Calls Tryd.prog 72 #[.agg #[.string nm, .int .i64 ar, .slice A n c]] w fun e w' => e = .returned (.bool (validT nm ar rs)) ∧ Below w.heap.size w w' := by
  have HL := Lib.hid hr.1
  have HB := Lib.hid (Below.refl w.heap.size w)
  cases h1 : nameB nm with
  | false =>
    have hf : Hid (validT nm ar rs = false) := by show _ = _; rw [validT, h1]; rfl
    have K1 := Lib.hid (l4Name_is h1)
    clear h1
    go_enter Tryd.func72, Tryd.ntmps72
    go_wp2_with fail
    refine (K1.out _).mono ?_
    rintro e w' ⟨rfl, rfl⟩
    go_wp2_with fail
    go_ret
    exact ⟨by rw [hf.out] <;> rfl, (HB.out).alloc (Nat.le_refl _) _⟩
  | true =>
    have K1 := Lib.hid (l4Name_is h1)
    cases h2 : inB ar 1 3 with
    | false =>
      have hf : Hid (validT nm ar rs = false) := by show _ = _; rw [validT, h1, h2]; rfl
      have K2 := Lib.hid (l1In_is h2)
      clear h1 h2
      go_enter Tryd.func72, Tryd.ntmps72
      go_wp2_with fail
      refine (K1.out _).mono ?_
      rintro e w' ⟨rfl, rfl⟩
      go_wp2_with fail
      refine (K2.out _).mono ?_
      rintro e w' ⟨rfl, rfl⟩
      go_wp2_with fail
      go_ret
      exact ⟨by rw [hf.out] <;> rfl, (HB.out).alloc (Nat.le_refl _) _⟩
    | true =>
      have K2 := Lib.hid (l1In_is h2)
      by_cases h3 : n ≤ 8
      · have hf : Hid (validT nm ar rs = (rs.all (fun r => rowB r ar) && ascB rs)) := by show _ = _; rw [validT, h1, h2, HL.out]; simp [h3]
        clear h1 h2
        go_enter Tryd.func72, Tryd.ntmps72
        go_wp2_with fail
        refine (K1.out _).mono ?_
        rintro e w' ⟨rfl, rfl⟩
        go_wp2_with fail
        refine (K2.out _).mono ?_
        rintro e w' ⟨rfl, rfl⟩
        go_wp2_with fail
        generalize hW : w.alloc (.cells #[.string nm, .int .i64 ar, .slice A n c] 41) = W
        have hWb : Hid (Below w.heap.size w W) := by rw [← hW]; exact (HB.out).alloc (Nat.le_refl _) _
        have w1 : W.cell? ⟨w.heap.size, 1, none⟩ = some (.int .i64 ar) := by rw [← hW]; simp [go_sem]
        have w2 : W.cell? ⟨w.heap.size, 2, none⟩ = some (.slice A n c) := by rw [← hW]; simp [go_sem]
        have hr1 : RdR W W.heap.size A n rs := by rw [← hW]; exact (RdR.belowB hr ((Below.refl B w).alloc hB _) (Nat.le_refl _)).more (by simp; omega)
        clear hW hr
        go_loopw [3] (fun i wr => ∃ k : Nat, k ≤ n ∧ i = .int .i64 k ∧ Hid ((rs.take k).all (fun r => rowB r ar) = true ∧ AscTo rs k) ∧ Qt W wr) (fun i _ => n - (intOf i).toNat)
        case atStart => exact ⟨0, by omega, rfl, ⟨by show (rs.take 0).all _ = true; simp, AscTo.one _ _ (by omega)⟩, Qt.refl _⟩
        case round =>
          obtain ⟨k, hk, rfl, hp, hbel⟩ := hrel
          have c1 := (hbel.cell (p := ⟨w.heap.size, 1, none⟩)).trans w1
          have c2 := (hbel.cell (p := ⟨w.heap.size, 2, none⟩)).trans w2
          by_cases hlt : k < n
          · obtain ⟨b, o, x, A1, cc1, rfl, _, hx, hc, hrd, hm⟩ := RdR.at_ hr1 hlt
            have hm' : x.length ≤ 9223372036854775807 := by unfold maxLen at hm; omega
            have hc1 := (hbel.cell (p := ⟨b, o + k, none⟩)).trans hc
            have g1 : (0 : Int) ≤ (k : Int) := by omega
            have g2 : (k : Int) < (n : Int) := by omega
            have g3 : (k : Int).toNat = k := by omega
            have KR := Lib.hid (fun q => l4Row_any A1 x.length cc1 x ar (wr.drewN q) (hbel.rdI hrd) hm')
            cases hin : rowB x ar with
            | false =>
              have hf2 : Hid ((rs.all (fun r => rowB r ar) && ascB rs) = false) := by show _ = _; rw [all_no (p := fun r => rowB r ar) hx hin]; rfl
              rw [hin] at KR
              clear hx hc hrd hm hin
              go_wp2_with fail
              go_quiet ((go_at_call 110; exact Calls.quiet_of_same ((KR.out _).mono fun _ _ h => ⟨h.1, h.2.symm⟩)))
              clear g3
              go_wp2_with fail
              go_ret
              exact ⟨by rw [hf.out, hf2.out] <;> rfl, hWb.out.trans ((hbel.drewN _).below _)⟩
            | true =>
              have hp1 := Lib.hid (all_take_step (p := fun r => rowB r ar) hx hin hp.out.1)
              rw [hin] at KR
              rcases Nat.eq_zero_or_pos k with hk0 | hk0
              · subst hk0
                have hp2 : Hid ((rs.take 1).all (fun r => rowB r ar) = true ∧ AscTo rs 1) := ⟨hp1.out, AscTo.one _ _ (by omega)⟩
                rw [Nat.add_zero] at hc1
                have g2' : (0 : Int) < (n : Int) := by omega
                clear hx hc hrd hm hin hp1 g1 g2 g3
                go_wp2_with fail
                go_quiet ((go_at_call 110; exact Calls.quiet_of_same ((KR.out _).mono fun _ _ h => ⟨h.1, h.2.symm⟩)))
                go_wp2_with fail
                refine ⟨⟨1, by omega, by go_num, hp2, hbel.drewN _⟩, ?_⟩
                simp [intOf]
                omega
              · obtain ⟨j, rfl⟩ : ∃ j, k = j + 1 := ⟨k - 1, by omega⟩
                obtain ⟨b', o', x', A2, cc2, hbb, _, hx', hc', hrd', hm2⟩ := RdR.at_ hr1 (show j < n by omega)
                injection hbb with hbb
                injection hbb with hb1 hb2
                subst hb1 hb2
                have hc2 := (hbel.cell (p := ⟨b, o + j, none⟩)).trans hc'
                have KE := Lib.hid (fun q => spec_CompareRows_q A2 A1 x'.length cc2 x.length cc1 x' x (wr.drewN q) (hbel.rdI hrd') (hbel.rdI hrd) (by unfold maxLen at hm2; omega) hm')
                have g4 : IntKind.i64.wrap ((((j + 1 : Nat) : Int)) - 1) = (j : Int) := by rw [IntWalk.i64_in _ (by omega)]; omega
                have g5 : (0 : Int) ≤ (j : Int) := by omega
                have g6 : (j : Int) < (n : Int) := by omega
                have g7 : (j : Int).toNat = j := by omega
                have g8 : decide ((0 : Int) < (((j + 1 : Nat) : Int))) = true := decide_eq_true (by omega)
                by_cases hcmp : cmpL x' x < 0
                · have hp2 : Hid ((rs.take (j + 1 + 1)).all (fun r => rowB r ar) = true ∧ AscTo rs (j + 1 + 1)) := ⟨hp1.out, hp.out.2.step hx' hx hcmp⟩
                  obtain ⟨y, hy⟩ : ∃ y, y = cmpL x' x := ⟨_, rfl⟩
                  rw [← hy] at KE hcmp
                  have hq : decide (0 ≤ y) = false := by simpa using hcmp
                  clear hy hx hx' hc hc' hrd hrd' hm hm2 hin hp1
                  go_wp2_with fail
                  go_quiet (first | (go_at_call 110; exact Calls.quiet_of_same ((KR.out _).mono fun _ _ h => ⟨h.1, h.2.symm⟩)) | (go_at_call 111; exact Calls.quiet_of (KE.out _)))
                  clear g3 g4 g7
                  go_wp2_with fail
                  refine ⟨⟨j + 1 + 1, by omega, by go_num, hp2, hbel.drewN _⟩, ?_⟩
                  simp [intOf]
                  omega
                · have hf2 : Hid ((rs.all (fun r => rowB r ar) && ascB rs) = false) := by show _ = _; rw [ascB_no hx' hx (by omega)]; simp
                  obtain ⟨y, hy⟩ : ∃ y, y = cmpL x' x := ⟨_, rfl⟩
                  rw [← hy] at KE hcmp
                  have hq : decide (0 ≤ y) = true := by simpa using hcmp
                  clear hy hx hx' hc hc' hrd hrd' hm hm2 hin hp1
                  go_wp2_with fail
                  go_quiet (first | (go_at_call 110; exact Calls.quiet_of_same ((KR.out _).mono fun _ _ h => ⟨h.1, h.2.symm⟩)) | (go_at_call 111; exact Calls.quiet_of (KE.out _)))
                  clear g3 g4 g7
                  go_wp2_with fail
                  go_ret
                  exact ⟨by rw [hf.out, hf2.out] <;> rfl, hWb.out.trans ((hbel.drewN _).below _)⟩
          · obtain rfl : k = n := by omega
            have hf2 : Hid ((rs.all (fun r => rowB r ar) && ascB rs) = true) := by
              show _ = _
              have h4 := hp.out.1
              rw [List.take_of_length_le (Nat.le_of_eq HL.out)] at h4
              rw [h4, hp.out.2.done (Nat.le_of_eq HL.out)]
              rfl
            go_wp2_with fail
            go_ret
            exact ⟨by rw [hf.out, hf2.out] <;> rfl, hWb.out.trans (hbel.below _)⟩
      · have hf : Hid (validT nm ar rs = false) := by show _ = _; rw [validT, HL.out]; simp [h3]
        clear h1 h2
        go_enter Tryd.func72, Tryd.ntmps72
        go_wp2_with fail
        refine (K1.out _).mono ?_
        rintro e w' ⟨rfl, rfl⟩
        go_wp2_with fail
        refine (K2.out _).mono ?_
        rintro e w' ⟨rfl, rfl⟩
        go_wp2_with fail
        go_ret
        exact ⟨by rw [hf.out] <;> rfl, (HB.out).alloc (Nat.le_refl _) _⟩
end Go.Proofs.YtmojjbhjjhdpaaaDoor
