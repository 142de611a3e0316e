/- The walk of the law on integer encodings. -/
import Derived.Test.YtmojjbhjjhdpaaaDoorEncP
import Derived.Test.YtmojjbhjjhdpaaaDoorWFormatInt
namespace Go.Proofs.YtmojjbhjjhdpaaaDoor
open Go.RowKit Go.Deep

theorem enc_facts (n : Int) (tail : ByteArray) (ht : tail.size ≤ 40) : ∃ (s : ByteArray) (x k : Nat), Hid (∀ W, Calls Tryd.prog 44 #[.int .i64 n] W fun e w' => e = .returned (.string s) ∧ Below W.heap.size W w') ∧
    Hid (∀ W, Calls Tryd.prog 45 #[.string (s ++ tail)] W fun e w' => e = .returned (.tuple #[.int .i64 x, .int .i64 k]) ∧ Below W.heap.size W w') ∧ s.size ≤ 7 ∧
    ((0 ≤ n ∧ n ≤ 562949953421311 ∧ ¬ s.toList = [] ∧ (x : Int) = n ∧ k = s.size) ∨ (s = ⟨#[]⟩ ∧ (n < 0 ∨ 562949953421311 < n))) := by
  obtain ⟨x, k, hxk⟩ := decV_exists ((⟨(encvR n).toArray⟩ ++ tail : ByteArray).data.toList)
  have hlen : (⟨(encvR n).toArray⟩ : ByteArray).size ≤ 7 := by
    show (encvR n).length ≤ 7
    by_cases h : 0 ≤ n ∧ n ≤ 562949953421311
    · rw [encvR, if_pos h]; exact encv_len 6 _ (by omega)
    · rw [encvR_no h]; simp
  refine ⟨⟨(encvR n).toArray⟩, x, k, fun W => impl_EncodeVarint_any n W _ (Nat.le_refl _), fun W => (impl_DecodeVarint_any _ W (by rw [ByteArray.size_append]; omega)).mono ?_, hlen, ?_⟩
  · rintro e w' ⟨n', k', hd, rfl, hb⟩
    obtain ⟨rfl, rfl⟩ := hd.unique hxk
    exact ⟨rfl, hb⟩
  · by_cases h : 0 ≤ n ∧ n ≤ 562949953421311
    · obtain ⟨N, rfl⟩ := Int.eq_ofNat_of_zero_le h.1
      have hN : N ≤ 562949953421311 := by omega
      have e : (⟨(encvR (N : Int)).toArray⟩ ++ tail : ByteArray).data.toList = encv N ++ tail.data.toList := by rw [encvR_yes hN]; simp
      rw [e] at hxk
      obtain ⟨h1, h2⟩ := hxk.unique (decV_enc hN _)
      refine .inl ⟨h.1, h.2, ?_, by rw [h1], ?_⟩
      · rw [ByteArray.toList_eq, encvR_yes hN]
        have := encv_pos N
        intro e
        have e2 : encv N = [] := by simpa using e
        rw [e2] at this
        simp at this
      · rw [h2, encvR_yes hN]; rfl
    · exact .inr ⟨by rw [encvR_no h], by omega⟩
theorem fix_facts (n d : Int) (tail : ByteArray) (ht : tail.size ≤ 40) (hn : I64 n) : ∃ (f : ByteArray) (y : Int) (is : Bool), Hid (∀ W, Calls Tryd.prog 47 #[.int .i64 n, .int .i64 d] W fun e w' => e = .returned (.string f) ∧ Below W.heap.size W w') ∧
    Hid (∀ W, Calls Tryd.prog 49 #[.int .i64 n, .int .i64 d] W fun e w' => e = .returned (.string f) ∧ Below W.heap.size W w') ∧
    Hid (∀ W, Calls Tryd.prog 48 #[.string (f ++ tail), .int .i64 d] W fun e w' => e = .returned (.tuple #[.int .i64 y, .bool is]) ∧ W = w') ∧ f.size ≤ 7 ∧
    ((¬ f.toList = [] ∧ y = n ∧ is = true ∧ (f.size : Int) = d) ∨ f = ⟨#[]⟩) := by
  have hmax : n ≤ 9223372036854775807 := hn.2
  by_cases h : 1 ≤ d ∧ d ≤ 7 ∧ 0 ≤ n ∧ n.toNat < 256 ^ d.toNat
  · obtain ⟨h1, h2, h3, h4⟩ := h
    obtain ⟨N, rfl⟩ := Int.eq_ofNat_of_zero_le h3
    obtain ⟨D, rfl⟩ := Int.eq_ofNat_of_zero_le (show 0 ≤ d by omega)
    rw [Int.toNat_natCast, Int.toNat_natCast] at h4
    have e := encFR_yes (N := N) (d := D) (by omega) (by omega) h4
    have hl : (encF D N).length = D := encF_length D N
    refine ⟨⟨(encFR N D).toArray⟩, N, true, fun W => impl_EncodeFixed_any N D W hmax, fun W => spec_EncodeFixed_any N D W hmax, fun W => ?_, ?_, .inl ⟨?_, rfl, rfl, ?_⟩⟩
    · have e2 : (⟨(encFR N D).toArray⟩ ++ tail : ByteArray).data.toList.take D = encF D N := by rw [e]; simp [hl]
      have hs : (⟨(encFR N D).toArray⟩ ++ tail : ByteArray).size = D + tail.size := by rw [ByteArray.size_append, e]; show (encF D N).length + _ = _; omega
      have := impl_DecodeFixed_any (⟨(encFR N D).toArray⟩ ++ tail) D W (by omega)
      rw [decFR_yes (by omega) (by omega) (by omega), e2, decF_encF, Nat.mod_eq_of_lt h4] at this
      exact this
    · rw [e]; show (encF D N).length ≤ 7; omega
    · rw [ByteArray.toList_eq, e]
      intro e3
      have e2 : encF D N = [] := by simpa using e3
      rw [e2] at hl
      simp at hl
      omega
    · rw [e]; show ((encF D N).length : Int) = D; omega
  · have e : encFR n d = [] := by rw [encFR, if_neg h]
    have hd : ∃ y is, decFR (⟨(encFR n d).toArray⟩ ++ tail) d = .tuple #[.int .i64 y, .bool is] := by
      unfold decFR
      split
      · exact ⟨_, _, rfl⟩
      · exact ⟨_, _, rfl⟩
    obtain ⟨y, is, hd⟩ := hd
    refine ⟨⟨(encFR n d).toArray⟩, y, is, fun W => impl_EncodeFixed_any n d W hmax, fun W => spec_EncodeFixed_any n d W hmax, fun W => ?_, by rw [e]; show (0 : Nat) ≤ 7; omega, .inr (by rw [e])⟩
    have := impl_DecodeFixed_any (⟨(encFR n d).toArray⟩ ++ tail) d W (by rw [ByteArray.size_append, e]; show 0 + tail.size ≤ _; omega)
    rw [hd] at this
    exact this
theorem int_facts (n : Int) (hn : I64 n) : ∃ (z : Int) (good : Bool), Hid (∀ W, Tb W → Ev W → Calls Tryd.prog 16 #[.string ⟨(fmtI n).toArray⟩] W fun e w' => e = .returned (.tuple #[.int .i64 z, .bool good]) ∧ Below W.heap.size W w') ∧
    ((-1000000000 < n ∧ n < 1000000000 ∧ z = n ∧ good = true) ∨ (¬ -1000000000 < n ∧ good = false) ∨ (¬ n < 1000000000 ∧ -1000000000 < n ∧ good = false)) := by
  have hsz : (⟨(fmtI n).toArray⟩ : ByteArray).size ≤ 1048576 := by
    have := fmtI_len (n := n) (k := 20) (by unfold I64 at hn; omega)
    show (fmtI n).length ≤ _
    omega
  by_cases h : -999999999 ≤ n ∧ n ≤ 999999999
  · exact ⟨n, true, fun W t _ => impl_ParseInt_yes n _ W t ⟨h, rfl⟩, .inl ⟨by omega, by omega, rfl, rfl⟩⟩
  · refine ⟨0, false, fun W t e => impl_ParseInt_no _ W hsz t e fun m hm => h ?_, .inr ?_⟩
    rotate_left
    · rcases Int.lt_or_le n 0 with h0 | h0
      · exact .inl ⟨by omega, rfl⟩
      · exact .inr ⟨by omega, by omega, rfl⟩
    have := fmtI_inj hm.2
    subst this
    exact hm.1
theorem hex_facts (tail : ByteArray) (ht : tail.size ≤ 40) : ∃ h : ByteArray, Hid (∀ W, Calls Tryd.prog 50 #[.string tail] W fun e w' => e = .returned (.string h) ∧ Below W.heap.size W w') ∧
    Hid (∀ W, Calls Tryd.prog 51 #[.string h] W fun e w' => e = .returned (.tuple #[.string tail, .bool true]) ∧ Below W.heap.size W w') ∧ (h.size : Int) = 2 * (tail.size : Int) := by
  have hl : (hexOf tail.data.toList).length = 2 * tail.size := by rw [hexOf_len]; exact congrArg (2 * ·) Array.length_toList
  have hs : (⟨(hexOf tail.data.toList).toArray⟩ : ByteArray).size = 2 * tail.size := hl
  refine ⟨⟨(hexOf tail.data.toList).toArray⟩, fun W => impl_EncodeHex_any tail W (by omega), fun W => ?_, by rw [hs]; omega⟩
  have := impl_DecodeHex_any ⟨(hexOf tail.data.toList).toArray⟩ W (by omega)
  rw [show (⟨(hexOf tail.data.toList).toArray⟩ : ByteArray).data.toList = hexOf tail.data.toList from rfl, dehexR_some (dehex_hexOf _)] at this
  exact this

set_option maxRecDepth 100000 in
set_option maxHeartbeats 8000000 in
theorem integerEncodings_walk (a0 : Option Addr) (len0 cap0 : Nat) (z0 : List Int) (w : World) (ht : Tb w) (he : Ev w) (w0 : IsRow .u8 w a0 len0 cap0 z0) :
    Calls Tryd.prog 11 #[.slice a0 len0 cap0] w fun e w' => e = .returned (.bool true) ∧ Below w.heap.size w w' := by
  have hr := rdC_of_row w0
  by_cases hb : (1048576 : Int) < len0
  · have K := Lib.hid (big_any a0 len0 cap0 w)
    rw [decide_eq_true hb] at K
    go_enter Tryd.func11, Tryd.ntmps11
    go_wp2_with fail
    refine K.out.mono ?_
    rintro e w1 ⟨rfl, rfl⟩
    go_wp2_with fail
    go_ret
    exact ⟨rfl, Below.refl _ _⟩
  · have K := Lib.hid (big_any a0 len0 cap0 w)
    rw [decide_eq_false hb] at K
    have hl : len0 ≤ 1048576 := by omega
    have KD1 : Hid (∀ W, Below w.heap.size w W → _) := fun W b => drawEncodeVarint_any a0 len0 cap0 W ((hr.keep b.block).more b.size) hl
    have KD2 : Hid (∀ W, Below w.heap.size w W → _) := fun W b => drawEncodeHex_any a0 len0 cap0 W ((hr.keep b.block).more b.size) hl
    have KD3 : Hid (∀ W, Below w.heap.size w W → _) := fun W b => drawEncodeFixed_any a0 len0 cap0 W ((hr.keep b.block).more b.size) hl
    clear hb hl hr w0
    go_enter Tryd.func11, Tryd.ntmps11
    go_wp2_with fail
    refine K.out.mono ?_
    rintro e w1 ⟨rfl, rfl⟩
    go_wp2_with fail
    refine (KD1.out w (Below.refl _ _)).mono ?_
    rintro e w1 ⟨n, rfl, hn, b1⟩
    go_wp2_with fail
    refine (KD2.out w1 b1).mono ?_
    rintro e w2 ⟨tail, rfl, htl, b2⟩
    have B2 := Lib.hid (b1.trans (b2.mono b1.size))
    obtain ⟨s, x, k, K1, K2, hs7, hcase⟩ := enc_facts n tail htl
    clear b1 b2 K KD1 KD2
    go_wp2_with fail
    refine (K1.out _).mono ?_
    rintro e w3 ⟨rfl, b3⟩
    have B3 := Lib.hid (B2.out.trans (b3.mono B2.out.size))
    have htl1 : (s ++ tail).size ≤ 47 := by rw [ByteArray.size_append]; omega
    clear b3 B2
    go_wp2_with fail
    refine (K2.out _).mono ?_
    rintro e w4 ⟨rfl, b4⟩
    have B4 := Lib.hid (B3.out.trans (b4.mono B3.out.size))
    clear b4 B3 K1 K2
    have hcut : (s.toList = [] ∧ ((0 ≤ n ∧ 562949953421311 < n) ∨ n < 0)) ∨ (s.toList.isEmpty = false ∧ 0 ≤ n ∧ n ≤ 562949953421311 ∧ (x : Int) = n ∧ (k : Int) = (s.size : Int)) := by
      rcases hcase with ⟨h1, h2, h3, h4, h5⟩ | ⟨rfl, h⟩
      · exact .inr ⟨by simpa using h3, h1, h2, h4, by rw [h5]⟩
      · exact .inl ⟨by rw [ByteArray.toList_eq], by omega⟩
    clear hcase
    rcases hcut with ⟨h1, ⟨h2, h3⟩ | h2⟩ | ⟨h1, h2, h3, h4, h5⟩
    all_goals (
      go_wp2_with fail
      refine (KD3.out _ B4.out).mono ?_
      rintro e w5 ⟨wv, d, rfl, ⟨hwv, hd1, hd2⟩, b5⟩
      have B5 := Lib.hid (B4.out.trans (b5.mono B4.out.size))
      obtain ⟨f, y, is, K1, K2, K3, hf7, hcase⟩ := fix_facts wv d tail htl hwv
      obtain ⟨z, good, K4, hcase2⟩ := int_facts wv hwv
      obtain ⟨h, K5, K6, hh⟩ := hex_facts tail htl
      clear b5 KD3 h1 h2
      try clear h3
      try clear h4 h5
      go_wp2_with fail
      refine (K1.out _).mono ?_
      rintro e w6 ⟨rfl, b6⟩
      have B6 := Lib.hid (B5.out.trans (b6.mono B5.out.size))
      have htl2 : (f ++ tail).size ≤ 47 := by rw [ByteArray.size_append]; omega
      clear b6 B5
      go_wp2_with fail
      refine (K3.out _).mono ?_
      rintro e w7 ⟨rfl, rfl⟩
      have hcut : (f.toList = []) ∨ (f.toList.isEmpty = false ∧ y = wv ∧ is = true ∧ (f.size : Int) = d) := by
        rcases hcase with ⟨h1, h2⟩ | rfl
        · exact .inr ⟨by simpa using h1, h2⟩
        · exact .inl (by rw [ByteArray.toList_eq])
      clear hcase
      have KI : Hid (∀ W, Tb W → Calls Tryd.prog 14 #[.int .i64 wv] W fun e w' => e = .returned (.string ⟨(fmtI wv).toArray⟩) ∧ Below W.heap.size W w') := fun W t => impl_FormatInt_any wv W hwv.1 hwv.2 t
      have KS : Hid (∀ W, Calls Tryd.prog 13 #[.int .i64 wv] W fun e w' => e = .returned (.string ⟨(fmtI wv).toArray⟩) ∧ Below W.heap.size W w') := fun W => spec_FormatInt_any wv W hwv.1 hwv.2
      generalize (⟨(fmtI wv).toArray⟩ : ByteArray) = D at KI KS K4
      have T7 : Hid (Tb w6) := ht.on B6.out
      have E7 : Hid (Ev w6) := he.on B6.out
      have HC2 := Lib.hid hcase2
      clear hcase2 hwv hn K1 K3
      rcases hcut with h1 | ⟨h1, h2, h3, h4⟩
      all_goals (
        go_wp2_with fail
        refine (K2.out _).mono ?_
        rintro e w7 ⟨rfl, b7⟩
        have B7 := Lib.hid (B6.out.trans (b7.mono B6.out.size))
        clear b7 B6 T7 E7
        go_wp2_with fail
        refine (K5.out _).mono ?_
        rintro e w8 ⟨rfl, b8⟩
        have B8 := Lib.hid (B7.out.trans (b8.mono B7.out.size))
        clear b8 B7 h1
        try clear h2 h3 h4
        go_wp2_with fail
        refine (K6.out _).mono ?_
        rintro e w9 ⟨rfl, b9⟩
        have B9 := Lib.hid (B8.out.trans (b9.mono B8.out.size))
        have T9 : Hid (Tb w9) := ht.on B9.out
        clear b9 B8
        go_wp2_with fail
        refine (KI.out _ T9.out).mono ?_
        rintro e w10 ⟨rfl, b10⟩
        have B10 := Lib.hid (B9.out.trans (b10.mono B9.out.size))
        have T10 : Hid (Tb w10) := ht.on B10.out
        have E10 : Hid (Ev w10) := he.on B10.out
        clear b10 B9 T9
        go_wp2_with fail
        refine (K4.out _ T10.out E10.out).mono ?_
        rintro e w11 ⟨rfl, b11⟩
        have B11 := Lib.hid (B10.out.trans (b11.mono B10.out.size))
        have qq : (D.toList == D.toList) = true := by simp
        have q3 : (tail.toList == tail.toList) = true := by simp
        clear b11 B10 T10 E10 K2 K4 K5 K6 KI
        rcases HC2.out with ⟨c1, c2, c3, c4⟩ | ⟨c1, c4⟩ | ⟨c1, c2, c4⟩
        all_goals (
          clear HC2
          go_wp2_with fail
          refine (KS.out _).mono ?_
          rintro e w12 ⟨rfl, b12⟩
          have B12 := Lib.hid (B11.out.trans (b12.mono B11.out.size))
          clear b12 B11
          go_wp2_with fail
          go_ret
          exact ⟨by first | rfl | (show Ending.returned (Value.bool (!decide (wv < 1000000000))) = _; rw [decide_eq_false (by omega)]; rfl), B12.out⟩)))
end Go.Proofs.YtmojjbhjjhdpaaaDoor
