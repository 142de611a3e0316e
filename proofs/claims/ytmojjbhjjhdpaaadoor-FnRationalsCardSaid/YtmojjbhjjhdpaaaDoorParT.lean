/- Numbers read from text: plain laws. Of no program. -/
import Derived.Test.YtmojjbhjjhdpaaaDoorNumT
import Derived.Lib.AtoiAllCases
namespace Go.Proofs.YtmojjbhjjhdpaaaDoor
open Go.RowKit

/-- The text is that of an int of at most nine digits. -/
def IsI (n : Int) (l : List UInt8) : Prop := (-999999999 ≤ n ∧ n ≤ 999999999) ∧ l = fmtI n
theorem IsI.len {n : Int} {l : List UInt8} (h : IsI n l) : l.length ≤ 10 := by
  rw [h.2]
  exact fmtI_len (k := 8) (by have := h.1; omega)
theorem IsI.atoi {n : Int} {l : List UInt8} (h : IsI n l) : Lib.atoiAll l = .ok n := by
  rw [h.2]
  exact atoiAll_fmtI (by have := h.1; omega) (by have := h.1; omega)

/-- One byte more: the number of the digits so far, and how many they are. -/
def dstep (p : Nat × Nat) (b : UInt8) : Nat × Nat := if 48 ≤ b.toNat ∧ b.toNat ≤ 57 then (p.1 * 10 + (b.toNat - 48), p.2 + 1) else p
def dscan (l : List UInt8) : Nat × Nat := l.foldl dstep (0, 0)
theorem dscan_snoc (l : List UInt8) (b : UInt8) : dscan (l ++ [b]) = dstep (dscan l) b := by simp [dscan, List.foldl_append]
theorem dscan_lt (l : List UInt8) : ∀ p : Nat × Nat, p.1 < 10 ^ p.2 → (l.foldl dstep p).1 < 10 ^ (l.foldl dstep p).2 := by
  induction l with
  | nil => intro p h; exact h
  | cons b r ih =>
    intro p h
    rw [List.foldl_cons]
    refine ih _ ?_
    unfold dstep
    split
    · show p.1 * 10 + (b.toNat - 48) < 10 ^ (p.2 + 1)
      rw [Nat.pow_succ]
      omega
    · exact h
theorem dscan_len (l : List UInt8) : ∀ p : Nat × Nat, (l.foldl dstep p).2 ≤ p.2 + l.length := by
  induction l with
  | nil => intro p; simp
  | cons b r ih =>
    intro p
    rw [List.foldl_cons]
    have := ih (dstep p b)
    have h2 : (dstep p b).2 ≤ p.2 + 1 := by unfold dstep; split <;> simp
    simp only [List.length_cons]
    omega
theorem dscan_digs (l : List UInt8) : ∀ p : Nat × Nat, (∀ b ∈ l, 48 ≤ b.toNat ∧ b.toNat ≤ 57) → l.foldl dstep p = (l.foldl (fun a b => a * 10 + (b.toNat - 48)) p.1, p.2 + l.length) := by
  induction l with
  | nil => intro p _; rfl
  | cons b r ih =>
    intro p h
    rw [List.foldl_cons, ih _ fun c hc => h c (by simp [hc])]
    unfold dstep
    rw [if_pos (h b (by simp))]
    simp only [List.foldl_cons, List.length_cons]
    congr 1
    omega
theorem dscan_decD (n : Nat) : dscan (decD n) = (n, (decD n).length) := by
  rw [dscan, dscan_digs _ _ (decD_dig n)]
  have := valD_decD n
  unfold valD at this
  simp only [this, Nat.zero_add]
/-- What the reference reads. -/
def spN (l : List UInt8) : Nat := (dscan (l.take 11)).1
def spK (l : List UInt8) : Nat := (dscan (l.take 11)).2
def spI (l : List UInt8) : Int := if l.head? = some 45 then -(spN l : Int) else (spN l : Int)
theorem sp_yes {n : Int} {l : List UInt8} (h : IsI n l) : spI l = n ∧ spK l ≤ 9 ∧ l.length ≤ 10 := by
  have hl := h.len
  obtain ⟨⟨h1, h2⟩, rfl⟩ := h
  have ht : (fmtI n).take 11 = fmtI n := List.take_of_length_le (by omega)
  have hd : (decD n.natAbs).length ≤ 9 := decD_len 8 n.natAbs (by omega)
  have hs := dscan_decD n.natAbs
  unfold spI spN spK
  rw [ht]
  unfold fmtI at hl ⊢
  by_cases hn : n < 0
  · rw [if_pos hn]
    have e : dscan (45 :: decD n.natAbs) = dscan (decD n.natAbs) := by
      unfold dscan
      rw [List.foldl_cons]
      rfl
    rw [e, hs, if_pos (show (45 :: decD n.natAbs).head? = some 45 from rfl)]
    exact ⟨by simp only; omega, hd, by rw [if_pos hn] at hl; exact hl⟩
  · rw [if_neg hn, hs]
    obtain ⟨b, r, hb, hb1, hb2⟩ := decD_cons n.natAbs
    rw [if_neg (by rw [hb]; simp; intro e; rw [e] at hb1; simp at hb1)]
    exact ⟨by simp only; omega, hd, by rw [if_neg hn] at hl; exact hl⟩
theorem sp_no {l : List UInt8} (h : ∀ n, ¬ IsI n l) (hk : spK l ≤ 9) : ¬ fmtI (spI l) = l := fun e => by
  have hlt : spN l < 10 ^ spK l := dscan_lt _ (0, 0) (by simp)
  have h9 : 10 ^ spK l ≤ 10 ^ 9 := Nat.pow_le_pow_right (by omega) hk
  have e9 : (10 : Nat) ^ 9 = 1000000000 := by decide
  refine h (spI l) ⟨?_, e.symm⟩
  unfold spI
  split <;> omega
theorem sp_take (l : List UInt8) (k : Nat) (h : k = l.length ∧ k ≤ 11 ∨ k = 11) : dscan (l.take k) = (spN l, spK l) := by
  have : l.take k = l.take 11 := by
    rcases h with ⟨rfl, h⟩ | rfl
    · rw [List.take_of_length_le (Nat.le_refl _), List.take_of_length_le h]
    · rfl
  rw [this]
  rfl
end Go.Proofs.YtmojjbhjjhdpaaaDoor
