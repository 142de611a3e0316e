/- Rationals read from text: plain laws. Of no program. -/
import Derived.Test.YtmojjbhjjhdpaaaDoorParT
import Derived.Test.YtmojjbhjjhdpaaaDoorCutT
import Derived.Test.YtmojjbhjjhdpaaaDoorRatF
namespace Go.Proofs.YtmojjbhjjhdpaaaDoor
open Go.RowKit

/-- The text of a rational, as a list. -/
def rl (n d : Int) : List UInt8 := if d = 1 then fmtI n else fmtI n ++ 47 :: fmtI d
theorem tR_list (n d : Int) : (tR n d).data.toList = rl n d := by
  unfold tR rl tI
  split <;> simp
def IsR (n d : Int) (s : ByteArray) : Prop := validR n d = true ∧ s = tR n d
theorem fmtI_no47 (n : Int) : ∀ b ∈ fmtI n, b ≠ 47 := by
  intro b hb e
  subst e
  unfold fmtI at hb
  have hd := decD_dig n.natAbs
  split at hb
  · rcases List.mem_cons.1 hb with h | h
    · cases h
    · have := hd _ h; simp at this
  · have := hd _ hb; simp at this
/-- strconv.Atoi's number, 0 where there is none. -/
def wide (l : List UInt8) : Int := match Lib.atoiAll l with | .ok v => v | _ => 0
theorem wide_fmtI {n : Int} (h1 : -2147483647 ≤ n) (h2 : n ≤ 2147483647) : wide (fmtI n) = n := by
  unfold wide
  rw [atoiAll_fmtI (by omega) (by omega)]
theorem wide_bd (l : List UInt8) : -9223372036854775808 ≤ wide l ∧ wide l ≤ 9223372036854775807 := by
  unfold wide
  cases h : Lib.atoiAll l with
  | ok v => exact Lib.atoiAll_bounds h
  | «syntax» => simp
  | range => simp

def isD (b : UInt8) : Prop := 48 ≤ b.toNat ∧ b.toNat ≤ 57
/-- The reference's number behind the sign. -/
def l2v (l : List UInt8) : Int := if l.length < 11 ∧ (∀ b ∈ l, 48 ≤ b.toNat ∧ b.toNat ≤ 57) then (valD l : Int) else 0
def l2 (l : List UInt8) : Int := if l.head? = some 45 then -(l2v l.tail) else l2v l
theorem valD_lt (l : List UInt8) (h : ∀ b ∈ l, 48 ≤ b.toNat ∧ b.toNat ≤ 57) : valD l < 10 ^ l.length := by
  have h1 := decFrom_digs l 0 h
  have h2 := Lib.decFrom_lt l 0 _ h1
  simpa [valD] using h2
theorem l2_fmtI {n : Int} (h1 : -2147483647 ≤ n) (h2 : n ≤ 2147483647) : l2 (fmtI n) = n := by
  have hd : (decD n.natAbs).length ≤ 10 := decD_len 9 n.natAbs (by omega)
  have hv := valD_decD n.natAbs
  have hl : l2v (decD n.natAbs) = (n.natAbs : Int) := by
    unfold l2v
    rw [if_pos ⟨by omega, decD_dig _⟩, hv]
  unfold l2 fmtI
  by_cases hn : n < 0
  · rw [if_pos hn, if_pos (show (45 :: decD n.natAbs).head? = some 45 from rfl)]
    show -(l2v (decD n.natAbs)) = n
    rw [hl]
    omega
  · rw [if_neg hn]
    obtain ⟨b, r, hb, hb1, hb2⟩ := decD_cons n.natAbs
    rw [if_neg (by rw [hb]; simp; intro e; rw [e] at hb1; simp at hb1), hl]
    omega
theorem l2v_bd (l : List UInt8) : 0 ≤ l2v l ∧ l2v l ≤ 9999999999 := by
  unfold l2v
  split
  · rename_i h
    have h1 := valD_lt l h.2
    have h2 : 10 ^ l.length ≤ 10 ^ 10 := Nat.pow_le_pow_right (by omega) (by omega)
    have e : (10 : Nat) ^ 10 = 10000000000 := by decide
    omega
  · omega
theorem l2_bd (l : List UInt8) : -9999999999 ≤ l2 l ∧ l2 l ≤ 9999999999 := by
  unfold l2
  split
  · have := l2v_bd l.tail; omega
  · have := l2v_bd l; omega

/-- A reader of numbers, at a text that may hold a '/': numerator and denominator. -/
structure RdN (g : List UInt8 → Int) (s : ByteArray) (p q : Int) : Prop where
  one : (∀ b ∈ s.data.toList, b ≠ 47) → p = g s.data.toList ∧ q = 1
  two : ∀ a r, s.data.toList = a ++ 47 :: r → (∀ b ∈ a, b ≠ 47) → p = g a ∧ q = g r
theorem RdN.yes {g : List UInt8 → Int} {s : ByteArray} {p q n d : Int} (hg : ∀ {n : Int}, -2147483647 ≤ n → n ≤ 2147483647 → g (fmtI n) = n) (h : RdN g s p q) (hR : IsR n d s) : p = n ∧ q = d := by
  obtain ⟨hv, hs⟩ := hR
  obtain ⟨⟨hd1, hd2⟩, hn1, hn2⟩ := validR_bd hv
  have hl : s.data.toList = rl n d := by rw [hs, tR_list]
  by_cases h1 : d = 1
  · rw [rl, if_pos h1] at hl
    obtain ⟨e1, e2⟩ := h.one (by rw [hl]; exact fmtI_no47 n)
    rw [hl, hg hn1 hn2] at e1
    exact ⟨e1, by omega⟩
  · rw [rl, if_neg h1] at hl
    obtain ⟨e1, e2⟩ := h.two _ _ hl (fmtI_no47 n)
    rw [hg hn1 hn2] at e1
    rw [hg (by omega) hd2] at e2
    exact ⟨e1, e2⟩
theorem isR_ne {n d : Int} {s : ByteArray} (h : IsR n d s) : ¬ s = ⟨#[]⟩ := by
  intro e
  have := tR_list n d
  rw [← h.2, e] at this
  unfold rl at this
  split at this
  · exact fmtI_ne n this.symm
  · simp at this
theorem fR_no {p q : Int} {s : ByteArray} (h : ∀ n d, ¬ IsR n d s) (h0 : ¬ s = ⟨#[]⟩) : ¬ fR p q = s := by
  intro e
  unfold fR at e
  split at e
  · rename_i hv
    exact h p q ⟨hv, e.symm⟩
  · exact h0 e.symm
theorem fR_yes {n d : Int} {s : ByteArray} (h : IsR n d s) : fR n d = s := by rw [fR, if_pos h.1, h.2]
end Go.Proofs.YtmojjbhjjhdpaaaDoor
