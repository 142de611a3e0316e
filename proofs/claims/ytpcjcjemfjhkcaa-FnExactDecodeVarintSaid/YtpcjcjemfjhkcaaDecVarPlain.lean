/- Varints read back: plain laws. Of no program. -/
import Derived.Test.YtpcjcjemfjhkcaaNumPlain
namespace Go.Proofs.Ytpcjcjemfjhkcaa

/-- The number that groups of seven bits say, the lowest first. -/
def valV : List UInt8 → Nat
  | [] => 0
  | b :: l => b.toNat % 128 + 128 * valV l
theorem valV_lt : ∀ l : List UInt8, valV l < 128 ^ l.length
  | [] => by simp [valV]
  | b :: l => by
    have := valV_lt l
    rw [valV, List.length_cons, Nat.pow_succ]
    omega
theorem valV_snoc : ∀ (l : List UInt8) (b : UInt8), valV (l ++ [b]) = valV l + (b.toNat % 128) * 128 ^ l.length
  | [], b => by simp [valV]
  | a :: l, b => by
    rw [List.cons_append, valV, valV_snoc l b, valV, List.length_cons, Nat.pow_succ, Nat.mul_add, Nat.add_assoc]
    congr 2
    rw [Nat.mul_comm (128 ^ l.length) 128, ← Nat.mul_assoc, ← Nat.mul_assoc, Nat.mul_comm 128 (b.toNat % 128)]
theorem ofNat_toNat {n : Nat} (h : n < 256) : (UInt8.ofNat n).toNat = n := by rw [UInt8.toNat_ofNat']; exact Nat.mod_eq_of_lt h
/-- All bytes of an encoding but the last are 128 or more; the last is less. -/
theorem encv_shape (n : Nat) : ∀ (j : Nat) (b : UInt8), (encv n)[j]? = some b → (b.toNat < 128 ↔ j + 1 = (encv n).length) := by
  induction n using Nat.strongRecOn with
  | ind n ih =>
    intro j b hb
    by_cases h : n < 128
    · rw [encv_small h] at hb ⊢
      have hj : j = 0 := by
        rcases j with _ | j
        · rfl
        · simp at hb
      subst hj
      simp at hb
      subst hb
      rw [ofNat_toNat (by omega)]
      simp [h]
    · rw [encv_big h] at hb ⊢
      rcases j with _ | j
      · simp only [List.getElem?_cons_zero, Option.some.injEq] at hb
        subst hb
        rw [ofNat_toNat (by omega)]
        have : 0 < (encv (n / 128)).length := by
          by_cases h' : n / 128 < 128
          · rw [encv_small h']; simp
          · rw [encv_big h']; simp
        rw [List.length_cons]
        omega
      · simp only [List.getElem?_cons_succ] at hb
        rw [ih (n / 128) (by omega) j b hb, List.length_cons]
        omega
theorem encv_pos (n : Nat) : 0 < (encv n).length := by
  by_cases h : n < 128
  · rw [encv_small h]; simp
  · rw [encv_big h]; simp
theorem valV_encv (n : Nat) : valV (encv n) = n := by
  induction n using Nat.strongRecOn with
  | ind n ih =>
    by_cases h : n < 128
    · rw [encv_small h, valV, valV, ofNat_toNat (by omega)]; omega
    · rw [encv_big h, valV, ih (n / 128) (by omega), ofNat_toNat (by omega)]; omega

/-- The first k bytes of l are an encoding. -/
def IsV (l : List UInt8) (k : Nat) : Prop := 1 ≤ k ∧ k ≤ 7 ∧ k ≤ l.length ∧ encv (valV (l.take k)) = l.take k
theorem IsV.last {l : List UInt8} {k : Nat} (h : IsV l k) {b : UInt8} (hb : l[k - 1]? = some b) : b.toNat < 128 := by
  obtain ⟨h1, h2, h3, h4⟩ := h
  refine (encv_shape (valV (l.take k)) (k - 1) b ?_).2 ?_
  · rw [h4, List.getElem?_take, if_pos (by omega)]; exact hb
  · rw [h4, List.length_take]; omega
theorem IsV.mid {l : List UInt8} {k j : Nat} (h : IsV l k) (hj : j + 1 < k) {b : UInt8} (hb : l[j]? = some b) : 128 ≤ b.toNat := by
  obtain ⟨h1, h2, h3, h4⟩ := h
  have := encv_shape (valV (l.take k)) j b (by rw [h4, List.getElem?_take, if_pos (by omega)]; exact hb)
  rw [h4, List.length_take] at this
  omega
theorem IsV.unique {l : List UInt8} {k k' : Nat} (h : IsV l k) (h' : IsV l k') : k = k' := by
  have key : ∀ {a b : Nat}, IsV l a → IsV l b → ¬ a < b := by
    intro a b ha hb hlt
    have hla : a - 1 < l.length := by have := ha.1; have := ha.2.2.1; omega
    have e : l[a - 1]? = some l[a - 1] := List.getElem?_eq_getElem hla
    have := ha.last e
    have := hb.mid (j := a - 1) (by have := ha.1; omega) e
    omega
  have := key h h'
  have := key h' h
  omega
/-- What decoding gives. -/
def DecV (l : List UInt8) (n k : Nat) : Prop := (IsV l k ∧ n = valV (l.take k)) ∨ (n = 0 ∧ k = 0 ∧ ∀ j, ¬ IsV l j)
theorem DecV.unique {l : List UInt8} {n k n' k' : Nat} (h : DecV l n k) (h' : DecV l n' k') : n = n' ∧ k = k' := by
  rcases h with ⟨h1, h2⟩ | ⟨h1, h2, h3⟩ <;> rcases h' with ⟨g1, g2⟩ | ⟨g1, g2, g3⟩
  · obtain rfl := h1.unique g1; exact ⟨by rw [h2, g2], rfl⟩
  · exact absurd h1 (g3 _)
  · exact absurd g1 (h3 _)
  · omega
/-- The first terminator at k does not give an encoding: none does. -/
theorem DecV.none_at {l : List UInt8} {k : Nat} {b : UInt8} (hb : l[k]? = some b) (hlt : b.toNat < 128) (hmid : ∀ j c, j < k → l[j]? = some c → 128 ≤ c.toNat) (hno : ¬ encv (valV (l.take (k + 1))) = l.take (k + 1)) : DecV l 0 0 := by
  refine .inr ⟨rfl, rfl, fun j hj => ?_⟩
  have hjl : j - 1 < l.length := by have := hj.1; have := hj.2.2.1; omega
  have e : l[j - 1]? = some l[j - 1] := List.getElem?_eq_getElem hjl
  have h1 := hj.last e
  have hge : ¬ j - 1 < k := fun h => by have := hmid (j - 1) _ h e; omega
  rcases Nat.lt_or_ge k (j - 1) with h | h
  · have := hj.mid (j := k) (by omega) hb; omega
  · obtain rfl : j = k + 1 := by have := hj.1; omega
    exact hno hj.2.2.2
theorem DecV.none_all {l : List UInt8} (hmid : ∀ j c, j < 7 → l[j]? = some c → 128 ≤ c.toNat) : DecV l 0 0 := by
  refine .inr ⟨rfl, rfl, fun j hj => ?_⟩
  have hjl : j - 1 < l.length := by have := hj.1; have := hj.2.2.1; omega
  have e : l[j - 1]? = some l[j - 1] := List.getElem?_eq_getElem hjl
  have h1 := hj.last e
  have := hmid (j - 1) _ (by have := hj.1; have := hj.2.1; omega) e
  omega
end Go.Proofs.Ytpcjcjemfjhkcaa
