/- The laws on rationals: plain laws. Of no program. -/
import Derived.Test.YtmojjbhjjhdpaaaDoorRatMk
import Derived.Test.YtmojjbhjjhdpaaaDoorInv3
import Derived.Test.YtmojjbhjjhdpaaaDoorRatPar
namespace Go.Proofs.YtmojjbhjjhdpaaaDoor
open Go.RowKit

theorem validR_iff {n d : Int} : validR n d = true ↔ (1 ≤ d ∧ d ≤ 2147483647) ∧ (-2147483647 ≤ n ∧ n ≤ 2147483647) ∧ Int.gcd n d = 1 := by
  unfold validR
  simp only [Bool.and_eq_true, inB_iff, beq_iff_eq]
  constructor
  · rintro ⟨h1, h2, h3⟩; exact ⟨h1, h2, by omega⟩
  · rintro ⟨h1, h2, h3⟩; exact ⟨h1, h2, by omega⟩
theorem makeP_ok {n d p q : Int} (h : makeP n d = (p, q, true)) : validR p q = true ∧ p * d = n * q := by
  unfold makeP at h
  split at h
  · rename_i hv
    injection h with h1 h2
    injection h2 with h2 _
    subst h1 h2
    refine ⟨hv, ?_⟩
    obtain ⟨a, ha⟩ := Int.gcd_dvd_left n d
    obtain ⟨b, hb⟩ := Int.gcd_dvd_right n d
    have hg : (Int.gcd n d : Int) ≠ 0 := fun e => by
      rw [e] at hv
      have := (validR_iff.1 hv).1
      simp at this
    generalize (Int.gcd n d : Int) = g at *
    subst ha hb
    rw [Int.mul_tdiv_cancel_left _ hg, Int.mul_tdiv_cancel_left _ hg]
    grind
  · injection h with _ h2; injection h2 with _ h3; cases h3
theorem makeP_no {n d p q : Int} (h : makeP n d = (p, q, false)) : p = 0 ∧ q = 0 := by
  unfold makeP at h
  split at h
  · injection h with _ h2; injection h2 with _ h3; cases h3
  · injection h with h1 h2; injection h2 with h2 _; exact ⟨h1.symm, h2.symm⟩
theorem makeR_ok {n d p q : Int} (h : makeR n d = (p, q, true)) : validR p q = true ∧ p * d = n * q ∧ d ≠ 0 := by
  unfold makeR at h
  split at h
  · injection h with _ h2; injection h2 with _ h3; cases h3
  · rename_i hb
    split at h
    · obtain ⟨h1, h2⟩ := makeP_ok h
      exact ⟨h1, by grind, by omega⟩
    · obtain ⟨h1, h2⟩ := makeP_ok h
      exact ⟨h1, h2, by omega⟩
theorem makeR_no {n d p q : Int} (h : makeR n d = (p, q, false)) : p = 0 ∧ q = 0 := by
  unfold makeR at h
  split at h
  · injection h with h1 h2; injection h2 with h2 _; exact ⟨h1.symm, h2.symm⟩
  · split at h
    · exact makeP_no h
    · exact makeP_no h
theorem opR_ok {n d n' d' X Y p q : Int} (h : opR n d n' d' X Y = (p, q, true)) : validR n d = true ∧ validR n' d' = true ∧ validR p q = true ∧ p * Y = X * q ∧ Y ≠ 0 := by
  unfold opR at h
  split at h
  · rename_i hv
    obtain ⟨h1, h2, h3⟩ := makeR_ok h
    exact ⟨hv.1, hv.2, h1, h2, h3⟩
  · injection h with _ h2; injection h2 with _ h3; cases h3
theorem opR_no {n d n' d' X Y p q : Int} (h : opR n d n' d' X Y = (p, q, false)) : p = 0 ∧ q = 0 := by
  unfold opR at h
  split at h
  · exact makeR_no h
  · injection h with h1 h2; injection h2 with h2 _; exact ⟨h1.symm, h2.symm⟩
theorem validR_zero : validR 0 0 = false := by decide
theorem cancel0 {a b : Int} (h : a * b = 0) (hb : b ≠ 0) : a = 0 := by
  rcases Int.mul_eq_zero.1 h with h | h
  · exact h
  · exact absurd h hb
theorem dvd_cop {p q q' : Int} (h : q ∣ p * q') (hg : Int.gcd p q = 1) : q ∣ q' := by
  have h1 := Int.natAbs_dvd_natAbs.2 h
  rw [Int.natAbs_mul] at h1
  exact Int.natAbs_dvd_natAbs.1 (Nat.Coprime.dvd_of_dvd_mul_left (by rw [Nat.coprime_iff_gcd_eq_one, Nat.gcd_comm]; exact hg) h1)
theorem val_uniq {p q p' q' : Int} (h : validR p q = true) (h' : validR p' q' = true) (e : p * q' = p' * q) : p = p' ∧ q = q' := by
  obtain ⟨⟨h1, _⟩, _, hg⟩ := validR_iff.1 h
  obtain ⟨⟨h1', _⟩, _, hg'⟩ := validR_iff.1 h'
  have d1 : q ∣ q' := by
    have : q ∣ p * q' := ⟨p', by rw [e, Int.mul_comm]⟩
    exact dvd_cop this hg
  have d2 : q' ∣ q := by
    have : q' ∣ p' * q := ⟨p, by rw [← e, Int.mul_comm]⟩
    exact dvd_cop this hg'
  have hq : q = q' := Int.dvd_antisymm (by omega) (by omega) d1 d2
  subst hq
  exact ⟨Int.eq_of_mul_eq_mul_right (by omega) e, rfl⟩
/-- What is added can be taken away. -/
theorem add_back {an ad bn bd sn sd dn dd : Int} (h : opR an ad bn bd (an * bd + bn * ad) (ad * bd) = (sn, sd, true)) (h2 : opR sn sd bn bd (sn * bd - bn * sd) (sd * bd) = (dn, dd, true)) : dn = an ∧ dd = ad := by
  obtain ⟨v1, v2, v3, e1, _⟩ := opR_ok h
  obtain ⟨_, _, v4, e2, n2⟩ := opR_ok h2
  have key : (dn * ad - an * dd) * (sd * bd) = 0 := by grind
  have := cancel0 key n2
  exact val_uniq v4 v1 (by omega)
/-- What is multiplied by can be divided by. -/
theorem mul_back {an ad bn bd pn pd dn dd : Int} (h : opR an ad bn bd (an * bn) (ad * bd) = (pn, pd, true)) (h2 : opR pn pd bn bd (pn * bd) (pd * bn) = (dn, dd, true)) : dn = an ∧ dd = ad := by
  obtain ⟨v1, v2, v3, e1, _⟩ := opR_ok h
  obtain ⟨_, _, v4, e2, n2⟩ := opR_ok h2
  have key : (dn * ad - an * dd) * (pd * bn) = 0 := by grind
  have := cancel0 key n2
  exact val_uniq v4 v1 (by omega)
theorem sign_mul {x y : Int} (hy : 0 < y) : (x * y < 0 ↔ x < 0) ∧ (0 < x * y ↔ 0 < x) := by
  rcases Int.lt_trichotomy x 0 with h | h | h
  · have := Int.mul_neg_of_neg_of_pos h hy
    constructor <;> constructor <;> intro _ <;> omega
  · subst h; simp
  · have := Int.mul_pos h hy
    constructor <;> constructor <;> intro _ <;> omega
/-- The sign of the difference is the comparison. -/
theorem sub_cmp {an ad bn bd xn xd : Int} (h : opR an ad bn bd (an * bd - bn * ad) (ad * bd) = (xn, xd, true)) : (cmpR an ad bn bd < 0 ↔ xn < 0) ∧ (0 < cmpR an ad bn bd ↔ 0 < xn) := by
  obtain ⟨v1, v2, v3, e1, _⟩ := opR_ok h
  have a1 := (validR_iff.1 v1).1.1
  have b1 := (validR_iff.1 v2).1.1
  have x1 := (validR_iff.1 v3).1.1
  have hp : 0 < ad * bd := Int.mul_pos (by omega) (by omega)
  have s1 := sign_mul (x := xn) hp
  have s2 := sign_mul (x := an * bd - bn * ad) (y := xd) (by omega)
  rw [e1] at s1
  rw [cmpR_3 v1 v2]
  generalize an * bd = U at *
  generalize bn * ad = V at *
  generalize (U - V) * xd = Z at *
  split
  · constructor <;> constructor <;> intro _ <;> omega
  · split
    · constructor <;> constructor <;> intro _ <;> omega
    · constructor <;> constructor <;> intro _ <;> omega
/-- The ceiling. -/
theorem ceil_law {n d : Int} (h : validR n d = true) : n ≤ ceilR n d * d ∧ (ceilR n d - 1) * d < n ∧ (-2147483648 ≤ ceilR n d ∧ ceilR n d ≤ 2147483648) := by
  obtain ⟨⟨d1, d2⟩, ⟨n1, n2⟩, _⟩ := validR_iff.1 h
  have hb := tdiv_bd (d := d) n1 n2
  have e : n.tdiv d * d + n.tmod d = n := Int.tdiv_mul_add_tmod n d
  have hm : n.tmod d < d := Int.tmod_lt_of_pos n (by omega)
  have hm2 : -d < n.tmod d := Int.lt_tmod_of_pos n (by omega)
  rw [ceilR, if_pos h]
  generalize n.tdiv d = t at *
  generalize n.tmod d = r at *
  have x1 : (t + 1) * d = t * d + d := by grind
  have x2 : (t - 1) * d = t * d - d := by grind
  have x3 : (t + 1 - 1) * d = t * d := by grind
  split
  · rw [x1, x3]; omega
  · rw [x2]; omega
theorem isR_uniq {n d n' d' : Int} {s : ByteArray} (h : IsR n d s) (h' : IsR n' d' s) : n = n' ∧ d = d' := by
  obtain ⟨p, q, hN⟩ := RdN.ex wide s
  obtain ⟨a, b⟩ := hN.yes wide_fmtI h
  obtain ⟨a', b'⟩ := hN.yes wide_fmtI h'
  exact ⟨a.symm.trans a', b.symm.trans b'⟩
theorem makeR_bd {n d p q : Int} {b : Bool} (h : makeR n d = (p, q, b)) : (-2147483647 ≤ p ∧ p ≤ 2147483647) ∧ (0 ≤ q ∧ q ≤ 2147483647) := by
  cases b with
  | true =>
    have := validR_iff.1 (makeR_ok h).1
    omega
  | false =>
    obtain ⟨rfl, rfl⟩ := makeR_no h
    omega
end Go.Proofs.YtmojjbhjjhdpaaaDoor
