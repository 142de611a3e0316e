/- Numbers as text: plain laws (what is written is read again). Of no program. -/
import Derived.Test.YtmojjbhjjhdpaaaDoorFmtP
import Derived.Lib.ItoaNum
import Derived.Lib.AtoiAll
import Derived.Lib.AtoiTie
namespace Go.Proofs.YtmojjbhjjhdpaaaDoor
open Go.RowKit

theorem decD_eq (n : Nat) : Lib.decDigits n = decD n := by
  induction n using Nat.strongRecOn with
  | _ n ih =>
    by_cases h : n < 10
    · rw [Lib.decDigits, dif_pos h, decD_small h]
    · rw [Lib.decDigits, dif_neg h, decD_big h, ih (n / 10) (by omega)]
theorem itoa_eq (n : Int) : Lib.itoa n = fmtI n := by
  unfold Lib.itoa fmtI
  split
  · rw [decD_eq]
  · rw [decD_eq, show n.toNat = n.natAbs by omega]

theorem ofNat_dig {k : Nat} (h : k < 10) : (UInt8.ofNat (48 + k)).toNat = 48 + k := by
  rw [UInt8.toNat_ofNat']
  exact Nat.mod_eq_of_lt (by omega)
/-- The number that bytes spell. -/
def valD (l : List UInt8) : Nat := l.foldl (fun a b => a * 10 + (b.toNat - 48)) 0
theorem valD_snoc (l : List UInt8) (b : UInt8) : valD (l ++ [b]) = valD l * 10 + (b.toNat - 48) := by simp [valD, List.foldl_append]
theorem valD_decD (n : Nat) : valD (decD n) = n := by
  induction n using Nat.strongRecOn with
  | _ n ih =>
    by_cases h : n < 10
    · rw [decD_small h, ← List.nil_append [_], valD_snoc, ofNat_dig h]
      show 0 * 10 + _ = n
      omega
    · rw [decD_big h, valD_snoc, ih (n / 10) (by omega), ofNat_dig (by omega)]
      omega
theorem decD_dig (n : Nat) : ∀ b ∈ decD n, 48 ≤ b.toNat ∧ b.toNat ≤ 57 := by
  induction n using Nat.strongRecOn with
  | _ n ih =>
    intro b hb
    by_cases h : n < 10
    · rw [decD_small h, List.mem_singleton] at hb
      subst hb
      rw [ofNat_dig h]
      omega
    · rw [decD_big h, List.mem_append, List.mem_singleton] at hb
      rcases hb with hb | rfl
      · exact ih (n / 10) (by omega) b hb
      · rw [ofNat_dig (by omega)]
        omega
theorem decD_ne (n : Nat) : decD n ≠ [] := by
  by_cases h : n < 10
  · rw [decD_small h]; simp
  · rw [decD_big h]; simp
theorem decD_cons (n : Nat) : ∃ b r, decD n = b :: r ∧ 48 ≤ b.toNat ∧ b.toNat ≤ 57 := by
  cases h : decD n with
  | nil => exact absurd h (decD_ne n)
  | cons b r => exact ⟨b, r, rfl, decD_dig n b (by rw [h]; simp)⟩
/-- k digits for a number below 10 ^ k. -/
theorem decD_len (k : Nat) : ∀ n : Nat, n < 10 ^ (k + 1) → (decD n).length ≤ k + 1 := by
  induction k with
  | zero => intro n h; rw [decD_small (by simpa using h)]; simp
  | succ k ih =>
    intro n h
    by_cases hn : n < 10
    · rw [decD_small hn]; simp
    · rw [decD_big hn, List.length_append, List.length_singleton]
      have := ih (n / 10) (by rw [Nat.pow_succ] at h; omega)
      omega
theorem fmtI_ne (n : Int) : fmtI n ≠ [] := by
  unfold fmtI
  split
  · simp
  · exact decD_ne _
theorem fmtI_inj {a b : Int} (h : fmtI a = fmtI b) : a = b := by
  unfold fmtI at h
  obtain ⟨x, r, hx, hx1, _⟩ := decD_cons a.natAbs
  obtain ⟨y, q, hy, hy1, _⟩ := decD_cons b.natAbs
  split at h <;> split at h
  · injection h with _ h
    have := congrArg valD h
    rw [valD_decD, valD_decD] at this
    omega
  · rw [hy] at h
    injection h with h _
    subst h
    simp at hy1
  · rw [hx] at h
    injection h with h _
    subst h
    simp at hx1
  · have := congrArg valD h
    rw [valD_decD, valD_decD] at this
    omega

/-- Digits, read by the library's scan. -/
theorem decFrom_digs (l : List UInt8) : ∀ (acc : Nat), (∀ b ∈ l, 48 ≤ b.toNat ∧ b.toNat ≤ 57) → Lib.decFrom acc l = some (l.foldl (fun a b => a * 10 + (b.toNat - 48)) acc) := by
  induction l with
  | nil => intro acc _; rfl
  | cons b r ih =>
    intro acc h
    have hb := h b (by simp)
    rw [Lib.decFrom, show Lib.digitVal b = some (b.toNat - 48) by rw [Lib.digitVal, if_pos hb]]
    exact ih _ fun c hc => h c (by simp [hc])
theorem decNat_decD (n : Nat) : Lib.decNat (decD n) = some n := by
  obtain ⟨b, r, hb, _⟩ := decD_cons n
  unfold Lib.decNat
  rw [if_neg (by rw [hb]; simp), decFrom_digs _ 0 (decD_dig n)]
  exact congrArg some (valD_decD n)
theorem parseUint_digs (l : List UInt8) : ∀ (acc : Nat), (∀ b ∈ l, 48 ≤ b.toNat ∧ b.toNat ≤ 57) → l.foldl (fun a b => a * 10 + (b.toNat - 48)) acc < 18446744073709551616 →
    Lib.parseUint10 acc l = .ok (l.foldl (fun a b => a * 10 + (b.toNat - 48)) acc) := by
  induction l with
  | nil => intro acc _ _; rfl
  | cons b r ih =>
    intro acc h hlt
    have hb := h b (by simp)
    have hmono : ∀ (q : List UInt8) (x : Nat), x ≤ q.foldl (fun a b => a * 10 + (b.toNat - 48)) x := by
      intro q
      induction q with
      | nil => intro x; exact Nat.le_refl _
      | cons c q ihq => intro x; exact Nat.le_trans (show x ≤ x * 10 + (c.toNat - 48) by omega) (ihq _)
    have hm := hmono r (acc * 10 + (b.toNat - 48))
    rw [List.foldl_cons] at hlt ⊢
    rw [Lib.parseUint10, if_pos hb, if_neg (by omega), if_neg (by omega)]
    exact ih _ (fun c hc => h c (by simp [hc])) hlt
theorem parseMag_decD {n : Nat} (h : n < 18446744073709551616) : Lib.parseMag (decD n) = .ok n := by
  have hv := valD_decD n
  unfold Lib.parseMag
  rw [if_neg (decD_ne n), parseUint_digs _ 0 (decD_dig n) (by show valD (decD n) < _; rw [hv]; exact h)]
  exact congrArg Lib.NumEnd.ok hv
theorem atoiAll_fmtI {n : Int} (h1 : -9223372036854775808 ≤ n) (h2 : n ≤ 9223372036854775807) : Lib.atoiAll (fmtI n) = .ok n := by
  unfold fmtI
  split
  · rename_i hn
    have hp := parseMag_decD (n := n.natAbs) (by omega)
    simp only [Lib.atoiAll, show (45 : UInt8).toNat = 45 from rfl, or_true, if_true, hp, not_true, false_and, if_false, true_and]
    rw [if_neg (show ¬ 9223372036854775808 < n.natAbs by omega)]
    congr 1
    omega
  · rename_i hn
    have hp := parseMag_decD (n := n.natAbs) (by omega)
    obtain ⟨b, r, hb, hb1, hb2⟩ := decD_cons n.natAbs
    rw [hb] at hp ⊢
    simp only [Lib.atoiAll]
    rw [if_neg (show ¬ (b.toNat = 43 ∨ b.toNat = 45) by omega), hp]
    simp only [show ¬ b.toNat = 45 by omega, if_false, false_and, not_false_eq_true, true_and]
    rw [if_neg (by omega)]
    congr 1
    omega
theorem atoi_fmtI {n : Int} (h1 : -999999999999 ≤ n) (h2 : n ≤ 999999999999) (hl : (fmtI n).length ≤ 18) : Lib.atoi (fmtI n) = some n := by
  have h := Lib.atoiAll_short (fmtI n) hl
  rw [atoiAll_fmtI (by omega) (by omega)] at h
  cases ha : Lib.atoi (fmtI n) with
  | none => rw [ha] at h; cases h
  | some m =>
    rw [ha] at h
    have h' : Lib.NumEnd.ok n = Lib.NumEnd.ok m := h
    injection h' with h'
    rw [h']
theorem fmtI_len {n : Int} {k : Nat} (h : n.natAbs < 10 ^ (k + 1)) : (fmtI n).length ≤ k + 2 := by
  have := decD_len k n.natAbs h
  unfold fmtI
  split
  · simp; omega
  · omega
/-- The text of an int. -/
def tI (n : Int) : ByteArray := ⟨(fmtI n).toArray⟩
theorem tI_size {n : Int} (h : n.natAbs < 10 ^ 10) : (tI n).size ≤ 11 := fmtI_len (k := 9) h
end Go.Proofs.YtmojjbhjjhdpaaaDoor
