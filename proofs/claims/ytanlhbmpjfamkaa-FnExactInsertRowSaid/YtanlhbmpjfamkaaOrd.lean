/- Plain laws of the order of rows. Of no program. -/
import Derived.Test.YtanlhbmpjfamkaaIsTab
namespace Go.Proofs.Ytanlhbmpjfamkaa

theorem cmpL_swap : ∀ a b : List Int, cmpL b a = -cmpL a b
  | [], [] => rfl
  | [], _ :: _ => rfl
  | _ :: _, [] => rfl
  | x :: a, y :: b => by
    rw [cmpL, cmpL]
    by_cases h1 : x < y
    · rw [if_pos h1, if_neg (by omega), if_pos h1]
      rfl
    · rw [if_neg h1]
      by_cases h2 : y < x
      · rw [if_pos h2, if_neg h1, if_pos h2]
      · rw [if_neg h2, if_neg h2, if_neg h1]
        exact cmpL_swap a b
theorem cmpL_trans : ∀ {a b c : List Int}, cmpL a b < 0 → cmpL b c < 0 → cmpL a c < 0
  | _, [], [], _, h => by simp [cmpL] at h
  | [], [], _ :: _, h, _ => by simp [cmpL] at h
  | _ :: _, [], _, h, _ => by simp [cmpL] at h
  | _, _ :: _, [], _, h => by simp [cmpL] at h
  | [], _ :: _, _ :: _, _, _ => by simp [cmpL]
  | x :: a, y :: b, z :: c, h, k => by
    rw [cmpL] at h k ⊢
    by_cases h1 : x < y
    · by_cases k1 : y < z
      · rw [if_pos (by omega)]; omega
      · rw [if_neg k1] at k
        by_cases k2 : z < y
        · rw [if_pos k2] at k; omega
        · rw [if_pos (by omega)]; omega
    · rw [if_neg h1] at h
      by_cases h2 : y < x
      · rw [if_pos h2] at h; omega
      · rw [if_neg h2] at h
        have hxy : x = y := by omega
        subst hxy
        by_cases k1 : x < z
        · rw [if_pos k1]; omega
        · rw [if_neg k1] at k ⊢
          by_cases k2 : z < x
          · rw [if_pos k2] at k; omega
          · rw [if_neg k2] at k ⊢
            exact cmpL_trans h k
/-- Strictly ascending. -/
abbrev AscP (rs : List (List Int)) : Prop := rs.Pairwise fun a b => cmpL a b < 0
theorem ascP_of : ∀ {rs : List (List Int)}, ascB rs = true → AscP rs
  | [], _ => .nil
  | [a], _ => by simp
  | a :: b :: l, h => by
    rw [ascB, Bool.and_eq_true, decide_eq_true_eq] at h
    have ih := ascP_of h.2
    refine List.pairwise_cons.2 ⟨fun y hy => ?_, ih⟩
    rcases List.mem_cons.1 hy with rfl | hy
    · exact h.1
    · exact cmpL_trans h.1 ((List.pairwise_cons.1 ih).1 y hy)
theorem ascB_of : ∀ {rs : List (List Int)}, AscP rs → ascB rs = true
  | [], _ => rfl
  | [a], _ => rfl
  | a :: b :: l, h => by
    have h' := List.pairwise_cons.1 h
    rw [ascB, Bool.and_eq_true, decide_eq_true_eq]
    exact ⟨h'.1 b (by simp), ascB_of h'.2⟩
theorem ascP_nodup {rs : List (List Int)} (h : AscP rs) : rs.Nodup := h.imp fun {a b} hab e => by
  subst e
  rw [cmpL_self] at hab
  omega
/-- Two ascending lists of the same rows are one. -/
theorem ascP_unique : ∀ {a b : List (List Int)}, AscP a → AscP b → (∀ x, x ∈ a ↔ x ∈ b) → a = b
  | [], [], _, _, _ => rfl
  | [], y :: b, _, _, h => by have := (h y).2 (by simp); cases this
  | x :: a, [], _, _, h => by have := (h x).1 (by simp); cases this
  | x :: a, y :: b, ha, hb, h => by
    have ha' := List.pairwise_cons.1 ha
    have hb' := List.pairwise_cons.1 hb
    have hxy : x = y := by
      rcases List.mem_cons.1 ((h x).1 (by simp)) with e | hx
      · exact e
      · rcases List.mem_cons.1 ((h y).2 (by simp)) with e | hy
        · exact e.symm
        · have h1 := hb'.1 x hx
          have h2 := ha'.1 y hy
          rw [cmpL_swap] at h1
          omega
    subst hxy
    congr 1
    refine ascP_unique ha'.2 hb'.2 fun z => ⟨fun hz => ?_, fun hz => ?_⟩
    · rcases List.mem_cons.1 ((h z).1 (List.mem_cons_of_mem _ hz)) with e | h1
      · subst e
        have := ha'.1 z hz
        rw [cmpL_self] at this
        omega
      · exact h1
    · rcases List.mem_cons.1 ((h z).2 (List.mem_cons_of_mem _ hz)) with e | h1
      · subst e
        have := hb'.1 z hz
        rw [cmpL_self] at this
        omega
      · exact h1
theorem eraseIdx_filter {rs : List (List Int)} {r : List Int} {k : Nat} (h : AscP rs) (hk : rs[k]? = some r) : rs.eraseIdx k = rs.filter fun x => decide (¬ x = r) := by
  have hnd := ascP_nodup h
  refine ascP_unique (h.sublist (List.eraseIdx_sublist rs k)) (h.sublist List.filter_sublist) fun x => ?_
  obtain ⟨hlt, hx⟩ := List.getElem?_eq_some_iff.1 hk
  rw [List.mem_eraseIdx_iff_getElem?, List.mem_filter, decide_eq_true_eq]
  constructor
  · rintro ⟨i, hne, hi⟩
    refine ⟨List.mem_of_getElem? hi, fun e => hne ?_⟩
    obtain ⟨hil, hix⟩ := List.getElem?_eq_some_iff.1 hi
    rcases Nat.lt_trichotomy i k with hlt' | heq | hgt
    · exact absurd (by rw [hix, hx, e]) (List.pairwise_iff_getElem.1 hnd i k hil hlt hlt')
    · exact heq
    · exact absurd (by rw [hix, hx, e]) (List.pairwise_iff_getElem.1 hnd k i hlt hil hgt)
  · rintro ⟨hm, hne⟩
    obtain ⟨i, hi⟩ := List.mem_iff_getElem?.1 hm
    exact ⟨i, fun e => hne (by subst e; rw [hk] at hi; injection hi with hi; exact hi.symm), hi⟩
theorem validT_asc {nm : ByteArray} {ar : Int} {rs : List (List Int)} (h : validT nm ar rs = true) : AscP rs := by
  unfold validT at h
  simp only [Bool.and_eq_true] at h
  exact ascP_of h.2.2.2.2
end Go.Proofs.Ytanlhbmpjfamkaa
