/- ParseInt, the reference's text. -/
import Derived.Test.YtmojjbhjjhdpaaaDoorParI
namespace Go.Proofs.YtmojjbhjjhdpaaaDoor
open Go.RowKit

theorem spI_pos {s : ByteArray} (h0 : 0 < s.size) (h : ¬ s[0].toNat = 45) : spI s.data.toList = (spN s.data.toList : Int) := by
  unfold spI
  rw [if_neg]
  intro e
  apply h
  have : s.data.toList[0]? = some 45 := by rw [← List.head?_eq_getElem?]; exact e
  obtain ⟨h1, h2⟩ := List.getElem?_eq_some_iff.1 this
  have h3 : s[0] = 45 := h2
  rw [h3]
  rfl
theorem spI_neg {s : ByteArray} (h0 : 0 < s.size) (h : s[0].toNat = 45) : spI s.data.toList = -(spN s.data.toList : Int) := by
  unfold spI
  rw [if_pos]
  have h3 : s[0] = 45 := by rw [← UInt8.toNat_inj]; exact h
  rw [List.head?_eq_getElem?]
  exact List.getElem?_eq_some_iff.2 ⟨by simpa using h0, h3⟩
theorem spI_nil {s : ByteArray} (h0 : ¬ 0 < s.size) : spI s.data.toList = (spN s.data.toList : Int) := by
  have hz : s.data.toList.length = s.size := by simp
  have : s.data.toList = [] := List.length_eq_zero_iff.1 (by omega)
  rw [this]
  rfl

/-- What the reference answers. -/
def spR (l : List UInt8) (R : Int × Bool) : Prop := (spK l ≤ 9 ∧ l.length ≤ 10 ∧ fmtI (spI l) = l → R = (spI l, true)) ∧ (¬ (spK l ≤ 9 ∧ l.length ≤ 10 ∧ fmtI (spI l) = l) → R = (0, false))

set_option maxRecDepth 100000 in
set_option maxHeartbeats 1000000 in
theorem spec_ParseInt_any (s : ByteArray) (w : World) (R : Int × Bool) (hs : s.size ≤ 1048576) (hR : spR s.data.toList R) :
    Calls Tryd.prog 15 #[.string s] w fun e w' => e = .returned (.tuple #[.int .i64 R.1, .bool R.2]) ∧ Below w.heap.size w w' := by
  have HR := Lib.hid hR
  clear hR
  go_enter Tryd.func15, Tryd.ntmps15
  go_wp2
  go_loop [4, 5, 6] (fun n c i => ∃ k N C : Nat, k ≤ s.size ∧ k ≤ 11 ∧ C ≤ k ∧ i = .int .i64 k ∧ n = .int .i64 N ∧ c = .int .i64 C ∧ Hid (dscan (s.data.toList.take k) = (N, C) ∧ N < 10 ^ C)) (fun _ _ i => 11 - (intOf i).toNat)
  case atStart => exact ⟨0, 0, 0, by omega, by omega, by omega, rfl, rfl, rfl, rfl, by simp⟩
  case round =>
    obtain ⟨k, N, C, hk, hk11, hCk, rfl, rfl, rfl, hinv⟩ := hrel
    have hNb : N ≤ 99999999999 := by
      have h1 := hinv.out.2
      have h2 : 10 ^ C ≤ 10 ^ 11 := Nat.pow_le_pow_right (by omega) (by omega)
      have e : (10 : Nat) ^ 11 = 100000000000 := by decide
      omega
    by_cases hlt : k < s.size ∧ k < 11
    · obtain ⟨hlt, hlt11⟩ := hlt
      have hNb2 : N ≤ 9999999999 := by
        have h1 := hinv.out.2
        have h2 : 10 ^ C ≤ 10 ^ 10 := Nat.pow_le_pow_right (by omega) (by omega)
        have e : (10 : Nat) ^ 10 = 10000000000 := by decide
        omega
      obtain ⟨x, hx⟩ : ∃ x, s[k].toNat = x := ⟨_, rfl⟩
      have hx256 : x < 256 := by have := s[k].toNat_lt; omega
      have hsn : dscan (s.data.toList.take (k + 1)) = dstep (N, C) s[k] := by rw [take_snoc s k hlt, dscan_snoc, hinv.out.1]
      by_cases hd : 48 ≤ x ∧ x ≤ 57
      · obtain ⟨h48, h57⟩ := hd
        have hst : Hid (dscan (s.data.toList.take (k + 1)) = (N * 10 + (x - 48), C + 1) ∧ N * 10 + (x - 48) < 10 ^ (C + 1)) := by
          refine ⟨?_, ?_⟩
          · rw [hsn]
            unfold dstep
            rw [if_pos (by rw [hx]; omega), hx]
          · have := hinv.out.2
            rw [Nat.pow_succ]
            omega
        clear hsn
        go_wp2
        go_round
        case rel => exact ⟨k + 1, N * 10 + (x - 48), C + 1, by omega, by omega, by omega, by go_num, by congr 1; omega, by go_num, hst⟩
        case measure => simp [intOf]; omega
      · have hst : Hid (dscan (s.data.toList.take (k + 1)) = (N, C) ∧ N < 10 ^ C) := by
          refine ⟨?_, hinv.out.2⟩
          rw [hsn]
          unfold dstep
          rw [if_neg (by rw [hx]; exact hd)]
        clear hsn
        by_cases h48 : 48 ≤ x
        · have h57 : ¬ x ≤ 57 := by omega
          go_wp2
          go_round
          case rel => exact ⟨k + 1, N, C, by omega, by omega, by omega, by go_num, rfl, rfl, hst⟩
          case measure => simp [intOf]; omega
        · go_wp2
          go_round
          case rel => exact ⟨k + 1, N, C, by omega, by omega, by omega, by go_num, rfl, rfl, hst⟩
          case measure => simp [intOf]; omega
    · have hsp : (N, C) = (spN s.data.toList, spK s.data.toList) := by rw [← hinv.out.1]; exact sp_take _ k (by simp; omega)
      have hN : Hid (spN s.data.toList = N) := by show _ = _; injection hsp with h1 _; exact h1.symm
      have hC : Hid (spK s.data.toList = C) := by show _ = _; injection hsp with _ h1; exact h1.symm
      clear hsp hinv
      have HL : Hid (s.data.toList.length = s.size) := by show _ = _; simp
      by_cases h10 : s.size ≤ 10
      · have ha : ¬ k < s.size := by omega
        clear hlt
        by_cases h0 : 0 < s.size
        · obtain ⟨x, hx⟩ : ∃ x, s[0].toNat = x := ⟨_, rfl⟩
          have hx256 : x < 256 := by have := s[0].toNat_lt; omega
          by_cases h45 : x = 45
          · have hI : Hid (spI s.data.toList = -(N : Int)) := by show _ = _; rw [spI_neg h0 (by omega), hN.out]
            subst h45
            by_cases h9 : C ≤ 9
            · obtain ⟨T, hT⟩ : ∃ T : ByteArray, T = ⟨(fmtI (-(N : Int))).toArray⟩ := ⟨_, rfl⟩
              have K1 : Hid (∀ W, Calls Tryd.prog 13 #[.int .i64 (-(N : Int))] W fun e w' => e = .returned (.string T) ∧ Below W.heap.size W w') := fun W => by
                have := spec_FormatInt_any (-(N : Int)) W (by omega) (by omega)
                rw [← hT] at this
                exact this
              by_cases hTs : T = s
              · have hf : Hid (R = (-(N : Int), true)) := by
                  show R = _
                  rw [← hI.out]
                  refine HR.out.1 ⟨by rw [hC.out]; exact h9, by rw [HL.out]; exact h10, ?_⟩
                  rw [hI.out, ← hTs, hT]
                clear hT
                subst hTs
                go_wp2_with (go_at_call 13; refine (K1.out _).mono ?_; rintro e w1 ⟨rfl, b1⟩)
                go_ret2
                exact ⟨by rw [hf.out] <;> rfl, b1⟩
              · have hf : Hid (R = (0, false)) := by
                  show R = _
                  refine HR.out.2 fun hh => hTs ?_
                  rw [hT, ← hI.out, hh.2.2]
                have q0 := str_eq0 hTs
                have q1 := str_ne1 hTs
                clear hTs hT
                go_wp2_with (go_at_call 13; refine (K1.out _).mono ?_; rintro e w1 ⟨rfl, b1⟩)
                go_ret2
                exact ⟨by rw [hf.out] <;> rfl, b1⟩
            · have hf : Hid (R = (0, false)) := HR.out.2 fun hh => h9 (by rw [← hC.out]; exact hh.1)
              (go_wp2_with fail) <;> (go_ret2; exact ⟨by rw [hf.out] <;> rfl, Below.refl _ _⟩)
          · have hI : Hid (spI s.data.toList = (N : Int)) := by show _ = _; rw [spI_pos h0 (by omega), hN.out]
            by_cases h9 : C ≤ 9
            · obtain ⟨T, hT⟩ : ∃ T : ByteArray, T = ⟨(fmtI ((N : Int))).toArray⟩ := ⟨_, rfl⟩
              have K1 : Hid (∀ W, Calls Tryd.prog 13 #[.int .i64 ((N : Int))] W fun e w' => e = .returned (.string T) ∧ Below W.heap.size W w') := fun W => by
                have := spec_FormatInt_any ((N : Int)) W (by omega) (by omega)
                rw [← hT] at this
                exact this
              by_cases hTs : T = s
              · have hf : Hid (R = ((N : Int), true)) := by
                  show R = _
                  rw [← hI.out]
                  refine HR.out.1 ⟨by rw [hC.out]; exact h9, by rw [HL.out]; exact h10, ?_⟩
                  rw [hI.out, ← hTs, hT]
                clear hT
                subst hTs
                go_wp2_with (go_at_call 13; refine (K1.out _).mono ?_; rintro e w1 ⟨rfl, b1⟩)
                go_ret2
                exact ⟨by rw [hf.out] <;> rfl, b1⟩
              · have hf : Hid (R = (0, false)) := by
                  show R = _
                  refine HR.out.2 fun hh => hTs ?_
                  rw [hT, ← hI.out, hh.2.2]
                have q0 := str_eq0 hTs
                have q1 := str_ne1 hTs
                clear hTs hT
                go_wp2_with (go_at_call 13; refine (K1.out _).mono ?_; rintro e w1 ⟨rfl, b1⟩)
                go_ret2
                exact ⟨by rw [hf.out] <;> rfl, b1⟩
            · have hf : Hid (R = (0, false)) := HR.out.2 fun hh => h9 (by rw [← hC.out]; exact hh.1)
              (go_wp2_with fail) <;> (go_ret2; exact ⟨by rw [hf.out] <;> rfl, Below.refl _ _⟩)
        · have hI : Hid (spI s.data.toList = (N : Int)) := by show _ = _; rw [spI_nil h0, hN.out]
          by_cases h9 : C ≤ 9
          · obtain ⟨T, hT⟩ : ∃ T : ByteArray, T = ⟨(fmtI ((N : Int))).toArray⟩ := ⟨_, rfl⟩
            have K1 : Hid (∀ W, Calls Tryd.prog 13 #[.int .i64 ((N : Int))] W fun e w' => e = .returned (.string T) ∧ Below W.heap.size W w') := fun W => by
              have := spec_FormatInt_any ((N : Int)) W (by omega) (by omega)
              rw [← hT] at this
              exact this
            by_cases hTs : T = s
            · have hf : Hid (R = ((N : Int), true)) := by
                show R = _
                rw [← hI.out]
                refine HR.out.1 ⟨by rw [hC.out]; exact h9, by rw [HL.out]; exact h10, ?_⟩
                rw [hI.out, ← hTs, hT]
              clear hT
              subst hTs
              go_wp2_with (go_at_call 13; refine (K1.out _).mono ?_; rintro e w1 ⟨rfl, b1⟩)
              go_ret2
              exact ⟨by rw [hf.out] <;> rfl, b1⟩
            · have hf : Hid (R = (0, false)) := by
                show R = _
                refine HR.out.2 fun hh => hTs ?_
                rw [hT, ← hI.out, hh.2.2]
              have q0 := str_eq0 hTs
              have q1 := str_ne1 hTs
              clear hTs hT
              go_wp2_with (go_at_call 13; refine (K1.out _).mono ?_; rintro e w1 ⟨rfl, b1⟩)
              go_ret2
              exact ⟨by rw [hf.out] <;> rfl, b1⟩
          · have hf : Hid (R = (0, false)) := HR.out.2 fun hh => h9 (by rw [← hC.out]; exact hh.1)
            (go_wp2_with fail) <;> (go_ret2; exact ⟨by rw [hf.out] <;> rfl, Below.refl _ _⟩)
      · have hf : Hid (R = (0, false)) := HR.out.2 fun hh => h10 (by rw [← HL.out]; exact hh.2.1)
        have hq : (k < s.size ∧ ¬ k < 11) ∨ ¬ k < s.size := by omega
        clear hlt
        rcases hq with ⟨ha, hb⟩ | ha
        all_goals
          by_cases h0 : 0 < s.size
          · obtain ⟨x, hx⟩ : ∃ x, s[0].toNat = x := ⟨_, rfl⟩
            have hx256 : x < 256 := by have := s[0].toNat_lt; omega
            by_cases h45 : x = 45
            · have hI : Hid (spI s.data.toList = -(N : Int)) := by show _ = _; rw [spI_neg h0 (by omega), hN.out]
              subst h45
              by_cases h9 : C ≤ 9
              all_goals
                (go_wp2_with fail) <;> (go_ret2; exact ⟨by rw [hf.out] <;> rfl, Below.refl _ _⟩)
            · have hI : Hid (spI s.data.toList = (N : Int)) := by show _ = _; rw [spI_pos h0 (by omega), hN.out]
              by_cases h9 : C ≤ 9
              all_goals
                (go_wp2_with fail) <;> (go_ret2; exact ⟨by rw [hf.out] <;> rfl, Below.refl _ _⟩)
          · have hI : Hid (spI s.data.toList = (N : Int)) := by show _ = _; rw [spI_nil h0, hN.out]
            by_cases h9 : C ≤ 9
            all_goals
              (go_wp2_with fail) <;> (go_ret2; exact ⟨by rw [hf.out] <;> rfl, Below.refl _ _⟩)

theorem spec_ParseInt_yes (n : Int) (s : ByteArray) (w : World) (hs : s.size ≤ 1048576) (h : IsI n s.data.toList) :
    Calls Tryd.prog 15 #[.string s] w fun e w' => e = .returned (.tuple #[.int .i64 n, .bool true]) ∧ Below w.heap.size w w' := by
  obtain ⟨h1, h2, h3⟩ := sp_yes h
  refine spec_ParseInt_any s w (n, true) hs ⟨fun _ => by rw [h1], fun hn => absurd ⟨h2, h3, ?_⟩ hn⟩
  rw [h1]
  exact h.2.symm
theorem spec_ParseInt_no (s : ByteArray) (w : World) (hs : s.size ≤ 1048576) (h : ∀ n, ¬ IsI n s.data.toList) :
    Calls Tryd.prog 15 #[.string s] w fun e w' => e = .returned (.tuple #[.int .i64 0, .bool false]) ∧ Below w.heap.size w w' :=
  spec_ParseInt_any s w (0, false) hs ⟨fun hy => absurd hy.2.2 (sp_no h hy.1), fun _ => rfl⟩
end Go.Proofs.YtmojjbhjjhdpaaaDoor
