/- DecodeVarint: both texts, and the law's walk. No condition. -/
import Derived.Test.YtpcjcjemfjhkcaaBase
import Derived.Test.YtpcjcjemfjhkcaaDecVarPlain
import Derived.Test.YtpcjcjemfjhkcaaVarint
import Derived.Deep.RegionHeld3
import Derived.Outline
namespace Go.Proofs.Ytpcjcjemfjhkcaa
open Go.RowKit

theorem valV_step (s : ByteArray) (k : Nat) (h : k < s.size) : valV (s.data.toList.take (k + 1)) = valV (s.data.toList.take k) + (s[k].toNat % 128) * 128 ^ k := by
  rw [take_snoc s k h, valV_snoc, List.length_take, Nat.min_eq_left (by simp; omega)]
theorem valV_bound (s : ByteArray) (k : Nat) (h : k ≤ 7) : valV (s.data.toList.take k) < 562949953421312 := by
  have h1 := valV_lt (s.data.toList.take k)
  have h2 : (s.data.toList.take k).length ≤ k := List.length_take_le _ _
  have h3 : 128 ^ (s.data.toList.take k).length ≤ 128 ^ 7 := Nat.pow_le_pow_right (by omega) (by omega)
  omega
theorem extract_take (s : ByteArray) (k : Nat) : (s.extract 0 k).toList = s.data.toList.take k := by
  rw [ByteArray.toList_eq]
  simp [ByteArray.data_extract]
theorem getE (s : ByteArray) (k : Nat) (h : k < s.size) : s.data.toList[k]? = some s[k] := by
  rw [List.getElem?_eq_getElem (by simpa using h)]
  rfl

theorem and127u8 (x : Nat) (h : x < 256) : bits .and .u8 (x : Int) 127 = (x : Int) % 128 := by
  have : ∀ i : Fin 256, bits .and .u8 (i.val : Int) 127 = (i.val : Int) % 128 := by decide +kernel
  exact this ⟨x, h⟩
theorem shl7 (x k T : Nat) (hT : (x % 128) * 128 ^ k = T) (hb : T < 562949953421312) : wrap64 ((x : Int) % 128 * 2 ^ (7 * k)) = (T : Int) := by
  have h1 : (x : Int) % 128 * 2 ^ (7 * k) = (T : Int) := by
    rw [← hT, Int.natCast_mul, Int.natCast_emod, Int.natCast_pow, Int.pow_mul]
    rfl
  rw [h1]
  exact IntWalk.wrap64_in _ ⟨by omega, by omega⟩
theorem or7 (N T x k : Nat) (hT : (x % 128) * 128 ^ k = T) (hN : N < 128 ^ k) (hb : T < 562949953421312) (hNb : N < 562949953421312) : bits .or .i64 (N : Int) (T : Int) = ((N + T : Nat) : Int) := by
  rw [i64_or_nat N T (by omega) (by omega)]
  have h1 : (128 : Nat) ^ k = 2 ^ (7 * k) := by rw [Nat.pow_mul]
  have := Nat.two_pow_add_eq_or_of_lt (i := 7 * k) (b := N) (by rw [← h1]; exact hN) (x % 128)
  rw [← h1, Nat.mul_comm, hT] at this
  rw [Nat.or_comm, ← this, Nat.add_comm]

theorem varint_bits (N T N' x k : Nat) (hx : x < 256) (hT : (x % 128) * 128 ^ k = T) (hN : N < 128 ^ k) (hb : T < 562949953421312) (hNb : N < 562949953421312) (hs : N' = N + T) :
    bits .or .i64 (N : Int) (wrap64 (wrap64 (bits .and .u8 (x : Int) 127) * 2 ^ (7 * k))) = (N' : Int) := by
  rw [and127u8 x hx, IntWalk.wrap64_in ((x : Int) % 128) ⟨by omega, by omega⟩, shl7 x k T hT hb, or7 N T x k hT hN hb hNb, hs]

/-- The result, behind a name. -/
def VRes (s : ByteArray) (w : World) (e : Ending) (w' : World) : Prop := ∃ n k : Nat, DecV s.data.toList n k ∧ e = .returned (.tuple #[.int .i64 n, .int .i64 k]) ∧ Below w.heap.size w w'

set_option maxRecDepth 100000 in
set_option maxHeartbeats 400000 in
theorem impl_DecodeVarint_any (s : ByteArray) (w : World) (hs : s.size ≤ 9223372036854775807) :
    Calls Try.prog 24 #[.string s] w (VRes s w) := by
  go_enter Try.func24, Try.ntmps24
  go_wp2
  go_loopw [4, 5] (fun n i wr => ∃ (k : Nat), k ≤ s.size ∧ k ≤ 7 ∧ i = .int .i64 k ∧ n = .int .i64 (valV (s.data.toList.take k) : Nat) ∧ Hid (∀ j c, j < k → s.data.toList[j]? = some c → 128 ≤ c.toNat) ∧ Below w.heap.size w wr) (fun _ i _ => 7 - (intOf i).toNat)
  case atStart => exact ⟨0, by omega, by omega, rfl, rfl, fun j c h => absurd h (by omega), Below.refl _ _⟩
  case round =>
    obtain ⟨k, hk, hk7, rfl, rfl, hmid, hbel⟩ := hrel
    by_cases hlt : k < s.size
    · by_cases h7 : k < 7
      · have hv := valV_bound s k hk7
        have hstep := Lib.hid (valV_step s k hlt)
        have hvk := valV_bound s (k + 1) (by omega)
        obtain ⟨x, hx⟩ : ∃ x, s[k].toNat = x := ⟨_, rfl⟩
        have hx256 : x < 256 := by have := s[k].toNat_lt; omega
        have hget := Lib.hid (getE s k hlt)
        rw [hx] at hstep
        have hNlt : valV (s.data.toList.take k) < 128 ^ k := by
          have := valV_lt (s.data.toList.take k)
          rwa [List.length_take, Nat.min_eq_left (by simp; omega)] at this
        obtain ⟨T, hT⟩ : ∃ T, (x % 128) * 128 ^ k = T := ⟨_, rfl⟩
        have hst2 := hstep.out
        rw [hT] at hst2
        have hTb : T < 562949953421312 := by omega
        have hN2 : valV (s.data.toList.take (k + 1)) ≤ 562949953421311 := by omega
        have Q := Lib.hid (varint_bits _ T _ x k hx256 hT hNlt hTb hv hst2)
        have hcon : ∀ W : World, w.heap.size ≤ W.heap.size → Calls Try.prog 18 #[.int .i64 (valV (s.data.toList.take (k + 1)) : Nat)] W fun e w' => e = .returned (.string ⟨(encv (valV (s.data.toList.take (k + 1)))).toArray⟩) ∧ Below w.heap.size W w' := fun W hW => by
          have := impl_EncodeVarint_any (valV (s.data.toList.take (k + 1)) : Nat) W w.heap.size hW
          rwa [encvR_yes hN2] at this
        have Hcon := Lib.hid hcon
        clear hcon hst2 hT hNlt hv hstep hN2 hTb
        generalize valV (s.data.toList.take k) = N at *
        obtain ⟨N', hN'⟩ : ∃ N', valV (s.data.toList.take (k + 1)) = N' := ⟨_, rfl⟩
        rw [hN'] at Hcon hvk Q
        have HN := Lib.hid hN'
        clear hN'
        by_cases hterm : x < 128
        · have hext := extract_take s (k + 1)
          have hsz := hbel.size
          have g1 : (0 : Int) ≤ (k : Int) + 1 := by omega
          have g2 : (k : Int) + 1 ≤ (s.size : Int) := by omega
          have g3 : IntKind.i64.wrap ((k : Int) + 1) = (k : Int) + 1 := IntWalk.i64_in _ (by omega)
          have g4 : ((k : Int) + 1).toNat = k + 1 := by omega
          by_cases hc : encv N' = s.data.toList.take (k + 1)
          · have hdec := Lib.hid (show DecV s.data.toList N' (k + 1) from .inl ⟨⟨by omega, by omega, by simp; omega, by rw [HN.out, hc]⟩, HN.out.symm⟩)
            have hcb : (encv N' == s.data.toList.take (k + 1)) = true := by simpa using hc
            clear hc
            go_wp2_with fail
            rw [Q.out]
            go_region_held3 (fun _ => True) (trivial) ((go_at_call 18; refine (Hcon.out _ ?_).mono ?_; (simp; omega); rintro e w1 ⟨rfl, b1⟩))
            go_wp2
            go_ret2
            exact ⟨N', k + 1, hdec.out, rfl, hbel.drew.trans b1⟩
          · have hdec := Lib.hid (DecV.none_at hget.out (by rw [hx]; exact hterm) hmid.out (by rw [HN.out]; exact hc))
            have hcb : (encv N' == s.data.toList.take (k + 1)) = false := by simpa using hc
            clear hc
            go_wp2_with fail
            rw [Q.out]
            go_region_held3 (fun _ => True) (trivial) ((go_at_call 18; refine (Hcon.out _ ?_).mono ?_; (simp; omega); rintro e w1 ⟨rfl, b1⟩))
            go_wp2
            go_ret2
            exact ⟨0, 0, hdec.out, rfl, hbel.drew.trans b1⟩
        · have hmid' : Hid (∀ j c, j < k + 1 → s.data.toList[j]? = some c → 128 ≤ c.toNat) := fun j c hj hc => by
            rcases Nat.lt_or_ge j k with h | h
            · exact hmid.out j c h hc
            · obtain rfl : j = k := by omega
              have h1 := hget.out
              rw [h1] at hc
              simp only [Option.some.injEq] at hc
              subst hc
              omega
          go_wp2
          refine ⟨⟨k + 1, by omega, by omega, by go_num, by rw [Q.out, HN.out], hmid', hbel⟩, ?_⟩
          simp [intOf]
          omega
      · obtain rfl : k = 7 := by omega
        have hdec := Lib.hid (DecV.none_all hmid.out)
        go_wp2
        go_ret2
        exact ⟨0, 0, hdec.out, rfl, hbel⟩
    · obtain rfl : k = s.size := by omega
      have hdec := Lib.hid (DecV.none_all (l := s.data.toList) (fun j c _ hc => hmid.out j c (by have := (List.getElem?_eq_some_iff.1 hc).1; simpa using this) hc))
      go_wp2
      go_ret2
      exact ⟨0, 0, hdec.out, rfl, hbel⟩

theorem drop_step (s : ByteArray) (k t : Nat) (hk : k ≤ s.size) (h : t < k) : (s.data.toList.take k).drop t = s[t] :: (s.data.toList.take k).drop (t + 1) := by
  rw [List.drop_eq_getElem_cons (by rw [List.length_take, Nat.min_eq_left (by simp; omega)]; exact h)]
  congr 1
  rw [List.getElem_take]
  rfl
theorem valV_drop (s : ByteArray) (k t : Nat) (h7 : k ≤ 7) : valV ((s.data.toList.take k).drop t) < 562949953421312 := by
  have h1 := valV_lt ((s.data.toList.take k).drop t)
  have h2 : ((s.data.toList.take k).drop t).length ≤ 7 := by rw [List.length_drop, List.length_take]; omega
  have h3 : 128 ^ ((s.data.toList.take k).drop t).length ≤ 128 ^ 7 := Nat.pow_le_pow_right (by omega) h2
  omega

set_option maxRecDepth 100000 in
set_option maxHeartbeats 400000 in
theorem spec_DecodeVarint_any (s : ByteArray) (w : World) (hs : s.size ≤ 9223372036854775806) :
    Calls Try.prog 23 #[.string s] w (VRes s w) := by
  go_enter Try.func23, Try.ntmps23
  go_wp2
  go_loopw [4] (fun i wr => ∃ (k : Nat), 1 ≤ k ∧ k ≤ 8 ∧ k ≤ s.size + 1 ∧ i = .int .i64 k ∧ Hid (∀ j, j < k → ¬ IsV s.data.toList j) ∧ Below w.heap.size w wr) (fun i _ => 8 - (intOf i).toNat)
  case atStart => exact ⟨1, by omega, by omega, by omega, rfl, fun j hj h => by have := h.1; omega, Below.refl _ _⟩
  case round =>
    obtain ⟨k, hk1, hk8, hks, rfl, hno, hbel⟩ := hrel
    by_cases h7 : k ≤ 7
    · by_cases hlt : k ≤ s.size
      · have hsz := hbel.size
        go_wp2
        go_loop [5, 6] (fun n i => ∃ (t : Nat), t ≤ k ∧ i = .int .i64 ((t : Int) - 1) ∧ n = .int .i64 (valV ((s.data.toList.take k).drop t) : Nat)) (fun _ i => (intOf i + 1).toNat)
        case atStart => exact ⟨k, by omega, rfl, by rw [List.drop_of_length_le (by rw [List.length_take]; omega)]; rfl⟩
        case round =>
          obtain ⟨t, ht, rfl, rfl⟩ := hrel
          by_cases h0 : t = 0
          · subst h0
            rw [List.drop_zero]
            have hvk := valV_bound s k h7
            have hcon : ∀ W : World, w.heap.size ≤ W.heap.size → Calls Try.prog 17 #[.int .i64 (valV (s.data.toList.take k) : Nat)] W fun e w' => e = .returned (.string ⟨(encv (valV (s.data.toList.take k))).toArray⟩) ∧ Below w.heap.size W w' := fun W hW => by
              have := spec_EncodeVarint_any (valV (s.data.toList.take k) : Nat) W w.heap.size hW
              rwa [encvR_yes (by omega)] at this
            have Hcon := Lib.hid hcon
            clear hcon
            have hext := extract_take s k
            have g1 : (0 : Int) ≤ (k : Int) := by omega
            have g2 : (k : Int) ≤ (s.size : Int) := by omega
            obtain ⟨N', hN'⟩ : ∃ N', valV (s.data.toList.take k) = N' := ⟨_, rfl⟩
            rw [hN'] at Hcon hvk
            rw [hN']
            have HN := Lib.hid hN'
            clear hN'
            by_cases hc : encv N' = s.data.toList.take k
            · have hdec := Lib.hid (show DecV s.data.toList N' k from .inl ⟨⟨hk1, h7, by simpa using hlt, by rw [HN.out, hc]⟩, HN.out.symm⟩)
              have hcb : (encv N' == s.data.toList.take k) = true := by simpa using hc
              clear hc
              go_wp2_with fail
              go_region_held3 (fun _ => True) (trivial) ((go_at_call 17; refine (Hcon.out _ ?_).mono ?_; (simp; omega); rintro e w1 ⟨rfl, b1⟩))
              go_wp2
              go_ret2
              exact ⟨N', k, hdec.out, rfl, hbel.drew.trans b1⟩
            · have hno' : Hid (∀ j, j < k + 1 → ¬ IsV s.data.toList j) := fun j hj hv => by
                rcases Nat.lt_or_ge j k with h | h
                · exact hno.out j h hv
                · obtain rfl : j = k := by omega
                  have := hv.2.2.2
                  rw [HN.out] at this
                  exact hc this
              have hcb : (encv N' == s.data.toList.take k) = false := by simpa using hc
              clear hc
              go_wp2_with fail
              go_region_held3 (fun _ => True) (trivial) ((go_at_call 17; refine (Hcon.out _ ?_).mono ?_; (simp; omega); rintro e w1 ⟨rfl, b1⟩))
              go_wp2
              refine ⟨⟨k + 1, by omega, by omega, by omega, by go_num, hno', hbel.drew.trans b1⟩, ?_⟩
              simp [intOf]
              omega
          · obtain ⟨t', rfl⟩ : ∃ t', t = t' + 1 := ⟨t - 1, by omega⟩
            have hd := valV_drop s k (t' + 1) h7
            have hst := Lib.hid (show valV ((s.data.toList.take k).drop t') = s[t'].toNat % 128 + 128 * valV ((s.data.toList.take k).drop (t' + 1)) by rw [drop_step s k t' hlt (by omega), valV])
            generalize valV ((s.data.toList.take k).drop (t' + 1)) = N at *
            have hb : s[t'].toNat < 256 := by have := s[t'].toNat_lt; omega
            rw [show ((t' + 1 : Nat) : Int) - 1 = (t' : Int) from by omega]
            go_wp2
            go_round
            case rel => exact ⟨t', by omega, rfl, by rw [hst.out]; go_num⟩
            case measure => simp [intOf]
      · have hdec := Lib.hid (show DecV s.data.toList 0 0 from .inr ⟨rfl, rfl, fun j hj => by
          rcases Nat.lt_or_ge j k with h | h
          · exact hno.out j h hj
          · have := hj.2.2.1
            simp at this
            omega⟩)
        go_wp2
        go_ret2
        exact ⟨0, 0, hdec.out, rfl, hbel⟩
    · have hdec := Lib.hid (show DecV s.data.toList 0 0 from .inr ⟨rfl, rfl, fun j hj => by
        rcases Nat.lt_or_ge j k with h | h
        · exact hno.out j h hj
        · have := hj.2.1
          omega⟩)
      go_wp2
      go_ret2
      exact ⟨0, 0, hdec.out, rfl, hbel⟩

theorem decodeVarint_walk (s : ByteArray) (w : World) (hs : s.size ≤ maxLen) : Calls Try.prog 10 #[.string s] w fun e w' => e = .returned (.bool true) ∧ Below w.heap.size w w' := by
  unfold maxLen at hs
  by_cases h : s.size ≤ 1048576
  · go_enter Try.func10, Try.ntmps10
    go_wp2_with fail
    refine (spec_DecodeVarint_any s _ (by omega)).mono ?_
    rintro e w1 ⟨n, k, hd1, rfl, b1⟩
    go_wp2_with fail
    refine (impl_DecodeVarint_any s _ (by omega)).mono ?_
    rintro e w2 ⟨n', k', hd2, rfl, b2⟩
    obtain ⟨rfl, rfl⟩ := hd1.unique hd2
    clear hd1 hd2
    go_wp2_with fail
    go_ret
    exact ⟨rfl, b1.trans (b2.mono b1.size)⟩
  · go_enter Try.func10, Try.ntmps10
    go_wp2_with fail
    go_ret
    exact ⟨rfl, Below.refl _ _⟩
end Go.Proofs.Ytpcjcjemfjhkcaa
