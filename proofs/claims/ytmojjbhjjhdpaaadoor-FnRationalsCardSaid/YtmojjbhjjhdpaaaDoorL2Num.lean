/- spec.l2Num and impl.wideInt: a number read from a text. -/
import Derived.Test.YtmojjbhjjhdpaaaDoorRatP
import Derived.Test.YtmojjbhjjhdpaaaDoorAtoi
namespace Go.Proofs.YtmojjbhjjhdpaaaDoor
open Go.RowKit

set_option maxRecDepth 100000 in
set_option maxHeartbeats 400000 in
theorem wideInt_any (s : ByteArray) (w : World) (hs : s.size ≤ 1048576) (he : Ev w) :
    Calls Tryd.prog 70 #[.string s] w fun e w' => e = .returned (.int .i64 (wide s.data.toList)) ∧ Below w.heap.size w w' := by
  cases hc : Lib.atoiAll s.data.toList with
  | ok v =>
    have HC := Lib.hid hc
    have hf : Hid (wide s.data.toList = v) := by show _ = _; rw [wide, hc]
    clear hc
    go_enter Tryd.func70, Tryd.ntmps70
    go_wp2_with fail
    refine (atoi_yes s v _ hs HC.out).mono ?_
    rintro e w1 ⟨rfl, b1⟩
    go_wp2_with fail
    go_ret
    exact ⟨by rw [hf.out] <;> rfl, b1⟩
  | «syntax» =>
    have HC : Hid (∀ v, ¬ Lib.atoiAll s.data.toList = .ok v) := fun v e => by rw [hc] at e; cases e
    have hf : Hid (wide s.data.toList = 0) := by show _ = _; rw [wide, hc]
    clear hc
    go_enter Tryd.func70, Tryd.ntmps70
    go_wp2_with fail
    refine (atoi_no s _ hs he HC.out).mono ?_
    rintro e w1 ⟨v, N, rfl, b1⟩
    go_wp2_with fail
    go_ret
    exact ⟨by rw [hf.out] <;> rfl, b1⟩
  | range =>
    have HC : Hid (∀ v, ¬ Lib.atoiAll s.data.toList = .ok v) := fun v e => by rw [hc] at e; cases e
    have hf : Hid (wide s.data.toList = 0) := by show _ = _; rw [wide, hc]
    clear hc
    go_enter Tryd.func70, Tryd.ntmps70
    go_wp2_with fail
    refine (atoi_no s _ hs he HC.out).mono ?_
    rintro e w1 ⟨v, N, rfl, b1⟩
    go_wp2_with fail
    go_ret
    exact ⟨by rw [hf.out] <;> rfl, b1⟩

/-- Short, or at the start. -/
def Sm (n k : Nat) : Prop := n < 11 ∨ k = 0
/-- The digits so far. -/
def L2Inv (t : ByteArray) (k N : Nat) : Prop := N = valD (t.data.toList.take k) ∧ (∀ b ∈ t.data.toList.take k, 48 ≤ b.toNat ∧ b.toNat ≤ 57)
theorem L2Inv.bd {t : ByteArray} {k N : Nat} (h : L2Inv t k N) (hk : k ≤ 10) : N ≤ 9999999999 := by
  have h1 := valD_lt _ h.2
  rw [← h.1] at h1
  have h2 : 10 ^ (t.data.toList.take k).length ≤ 10 ^ 10 := Nat.pow_le_pow_right (by omega) (by rw [List.length_take]; omega)
  have e : (10 : Nat) ^ 10 = 10000000000 := by decide
  omega
theorem L2Inv.step {t : ByteArray} {k N x : Nat} (h : L2Inv t k N) (hk : k < t.size) (hx : t[k].toNat = x) (h1 : 48 ≤ x) (h2 : x ≤ 57) : L2Inv t (k + 1) (N * 10 + (x - 48)) := by
  refine ⟨?_, fun b hb => ?_⟩
  · rw [take_snoc t k hk, valD_snoc, ← h.1, hx]
  · rw [take_snoc t k hk, List.mem_append, List.mem_singleton] at hb
    rcases hb with hb | rfl
    · exact h.2 b hb
    · rw [hx]; exact ⟨h1, h2⟩
theorem L2Inv.bad {t : ByteArray} {k N x : Nat} (_ : L2Inv t k N) (hk : k < t.size) (hx : t[k].toNat = x) (hn : ¬ (48 ≤ x ∧ x ≤ 57)) : l2v t.data.toList = 0 := by
  unfold l2v
  rw [if_neg]
  intro hh
  have hm : t[k] ∈ t.data.toList := by
    have h1 : t.data.toList[k]'(by simpa using hk) = t[k] := rfl
    rw [← h1]
    exact List.getElem_mem _
  have := hh.2 _ hm
  rw [hx] at this
  exact hn this
theorem L2Inv.full {t : ByteArray} {N : Nat} (h : L2Inv t t.size N) (hs : t.size < 11) : l2v t.data.toList = (N : Int) := by
  unfold l2v
  have ht := take_all t
  unfold L2Inv at h
  rw [ht] at h
  rw [if_pos ⟨by simpa using hs, h.2⟩, ← h.1]
theorem l2v_long {t : ByteArray} (h : ¬ t.size < 11) : l2v t.data.toList = 0 := by
  unfold l2v
  rw [if_neg]
  intro hh
  exact h (by simpa using hh.1)

theorem l2_neg {s : ByteArray} (h0 : 0 < s.size) (h : s[0].toNat = 45) : l2 s.data.toList = -(l2v (s.extract 1 s.size).data.toList) := by
  have h3 : s[0] = 45 := by rw [← UInt8.toNat_inj]; exact h
  have h4 : s.data.toList.head? = some 45 := by
    rw [List.head?_eq_getElem?]
    exact List.getElem?_eq_some_iff.2 ⟨by simpa using h0, h3⟩
  unfold l2
  rw [if_pos h4]
  congr 2
  rw [Lib.extract_to_end]
  simp
theorem l2_pos {s : ByteArray} (h0 : 0 < s.size) (h : ¬ s[0].toNat = 45) : l2 s.data.toList = l2v s.data.toList := by
  unfold l2
  rw [if_neg]
  intro e
  apply h
  rw [List.head?_eq_getElem?] at e
  obtain ⟨h1, h2⟩ := List.getElem?_eq_some_iff.1 e
  have h3 : s[0] = 45 := h2
  rw [h3]
  rfl
set_option maxRecDepth 100000 in
set_option maxHeartbeats 1000000 in
theorem l2Num_any (s : ByteArray) (w : World) (hs : s.size ≤ 1048576) :
    Calls Tryd.prog 68 #[.string s] w fun e w' => e = .returned (.int .i64 (l2 s.data.toList)) ∧ w = w' := by
  by_cases h0 : 0 < s.size
  · obtain ⟨y, hy⟩ : ∃ y, s[0].toNat = y := ⟨_, rfl⟩
    have hy256 : y < 256 := by have := s[0].toNat_lt; omega
    by_cases h45 : y = 45
    · have hF0 : Hid (l2 s.data.toList = -(l2v (s.extract 1 s.size).data.toList)) := l2_neg h0 (by omega)
      have hts : (s.extract 1 s.size).size ≤ 1048576 := by rw [ByteArray.size_extract]; omega
      subst h45
      go_enter Tryd.func68, Tryd.ntmps68
      go_wp2
      generalize s.extract 1 s.size = t at hF0 hts ⊢
      have HF := hF0
      go_loop [3, 5] (fun n i => ∃ k N : Nat, k ≤ t.size ∧ Sm t.size k ∧ i = .int .i64 k ∧ n = .int .i64 N ∧ Hid (L2Inv t k N)) (fun _ i => t.size - (intOf i).toNat)
      case atStart => exact ⟨0, 0, by omega, Or.inr rfl, rfl, rfl, rfl, by simp⟩
      case round =>
        obtain ⟨k, N, hk, hsm, rfl, rfl, hinv⟩ := hrel
        by_cases h11 : t.size < 11
        · have hNb : N ≤ 9999999999 := hinv.out.bd (by omega)
          by_cases hlt : k < t.size
          · have hNb2 : N * 10 ≤ 99999999990 := by omega
            obtain ⟨x, hx⟩ : ∃ x, t[k].toNat = x := ⟨_, rfl⟩
            have hx256 : x < 256 := by have := t[k].toNat_lt; omega
            by_cases hd : 48 ≤ x ∧ x ≤ 57
            · obtain ⟨h48, h57⟩ := hd
              have hst := Lib.hid (hinv.out.step hlt hx h48 h57)
              clear hinv
              go_wp2
              go_round
              case rel => exact ⟨k + 1, N * 10 + (x - 48), by omega, Or.inl h11, by go_num, by congr 1; omega, hst⟩
              case measure => simp [intOf]; omega
            · have hf := Lib.hid (hinv.out.bad hlt hx hd)
              clear hinv
              by_cases h48 : 48 ≤ x
              · have h57 : ¬ x ≤ 57 := by omega
                clear hd
                go_wp2
                go_ret
                exact ⟨ret_int (by have := HF.out; have := hf.out; omega), rfl⟩
              · clear hd
                go_wp2
                go_ret
                exact ⟨ret_int (by have := HF.out; have := hf.out; omega), rfl⟩
          · obtain rfl : k = t.size := by omega
            have hf := Lib.hid (hinv.out.full h11)
            clear hinv
            go_wp2
            go_ret
            exact ⟨ret_int (by have := HF.out; have := hf.out; omega), rfl⟩
        · have hf := Lib.hid (l2v_long h11)
          obtain rfl : k = 0 := by rcases hsm with h | h <;> omega
          have hN : Hid (N = 0) := by show N = 0; have := hinv.out.1; simpa [valD] using this
          obtain rfl : N = 0 := hN.out
          have h0t : 0 < t.size := by omega
          clear hinv
          go_wp2
          go_ret
          exact ⟨ret_int (by have := HF.out; have := hf.out; omega), rfl⟩
    · have HF : Hid (l2 s.data.toList = l2v s.data.toList) := l2_pos h0 (by omega)
      have hts := hs
      have hq : ((y : Int) == 45) = false := by simp; omega
      go_enter Tryd.func68, Tryd.ntmps68
      go_wp2
      go_loop [3, 5] (fun n i => ∃ k N : Nat, k ≤ s.size ∧ Sm s.size k ∧ i = .int .i64 k ∧ n = .int .i64 N ∧ Hid (L2Inv s k N)) (fun _ i => s.size - (intOf i).toNat)
      case atStart => exact ⟨0, 0, by omega, Or.inr rfl, rfl, rfl, rfl, by simp⟩
      case round =>
        obtain ⟨k, N, hk, hsm, rfl, rfl, hinv⟩ := hrel
        by_cases h11 : s.size < 11
        · have hNb : N ≤ 9999999999 := hinv.out.bd (by omega)
          by_cases hlt : k < s.size
          · have hNb2 : N * 10 ≤ 99999999990 := by omega
            obtain ⟨x, hx⟩ : ∃ x, s[k].toNat = x := ⟨_, rfl⟩
            have hx256 : x < 256 := by have := s[k].toNat_lt; omega
            by_cases hd : 48 ≤ x ∧ x ≤ 57
            · obtain ⟨h48, h57⟩ := hd
              have hst := Lib.hid (hinv.out.step hlt hx h48 h57)
              clear hinv
              go_wp2
              go_round
              case rel => exact ⟨k + 1, N * 10 + (x - 48), by omega, Or.inl h11, by go_num, by congr 1; omega, hst⟩
              case measure => simp [intOf]; omega
            · have hf := Lib.hid (hinv.out.bad hlt hx hd)
              clear hinv
              by_cases h48 : 48 ≤ x
              · have h57 : ¬ x ≤ 57 := by omega
                clear hd
                go_wp2
                go_ret
                exact ⟨ret_int (by have := HF.out; have := hf.out; omega), rfl⟩
              · clear hd
                go_wp2
                go_ret
                exact ⟨ret_int (by have := HF.out; have := hf.out; omega), rfl⟩
          · obtain rfl : k = s.size := by omega
            have hf := Lib.hid (hinv.out.full h11)
            clear hinv
            go_wp2
            go_ret
            exact ⟨ret_int (by have := HF.out; have := hf.out; omega), rfl⟩
        · have hf := Lib.hid (l2v_long h11)
          obtain rfl : k = 0 := by rcases hsm with h | h <;> omega
          have hN : Hid (N = 0) := by show N = 0; have := hinv.out.1; simpa [valD] using this
          obtain rfl : N = 0 := hN.out
          have h0t : 0 < s.size := by omega
          clear hinv
          go_wp2
          go_ret
          exact ⟨ret_int (by have := HF.out; have := hf.out; omega), rfl⟩
  · have HF : Hid (l2 s.data.toList = 0) := by
      show _ = _
      have hz : s.data.toList.length = s.size := by simp
      have : s.data.toList = [] := List.length_eq_zero_iff.1 (by omega)
      rw [this]
      rfl
    go_enter Tryd.func68, Tryd.ntmps68
    go_wp2
    refine wp_loop_rounds 1 ?_
    rw [rounds_succ]
    go_wp2
    go_ret
    exact ⟨by rw [HF.out] <;> rfl, rfl⟩
end Go.Proofs.YtmojjbhjjhdpaaaDoor
