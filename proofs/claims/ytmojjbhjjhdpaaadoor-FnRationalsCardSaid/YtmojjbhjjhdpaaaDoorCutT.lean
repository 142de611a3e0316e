/- A text cut at a byte, and joined again: plain laws. Of no program. -/
import Derived.Test.YtmojjbhjjhdpaaaDoorFmtP
import Derived.Lib.Split
import Derived.Lib.SplitLaws
import Derived.Lib.Join
import Derived.Lib.JoinLaws
namespace Go.Proofs.YtmojjbhjjhdpaaaDoor
open Go.RowKit

/-- The pieces between the bytes c. -/
def cutL (c : UInt8) : List UInt8 → List (List UInt8)
  | [] => [[]]
  | b :: r => if b = c then [] :: cutL c r else (b :: (cutL c r).headD []) :: (cutL c r).tail
theorem cutL_ne (c : UInt8) (l : List UInt8) : cutL c l ≠ [] := by
  cases l with
  | nil => simp [cutL]
  | cons b r => unfold cutL; split <;> simp
theorem cutL_none (c : UInt8) : ∀ l : List UInt8, (∀ b ∈ l, b ≠ c) → cutL c l = [l]
  | [], _ => rfl
  | b :: r, h => by
    have h1 := cutL_none c r fun x hx => h x (by simp [hx])
    rw [cutL, if_neg (h b (by simp)), h1]
    rfl
theorem cutL_step (c : UInt8) (r : List UInt8) : ∀ p : List UInt8, (∀ b ∈ p, b ≠ c) → cutL c (p ++ c :: r) = p :: cutL c r
  | [], _ => by rw [List.nil_append, cutL, if_pos rfl]
  | b :: p, h => by
    have h1 := cutL_step c r p fun x hx => h x (by simp [hx])
    rw [List.cons_append, cutL, if_neg (h b (by simp)), h1]
    rfl
/-- What stands ahead of the first c, and whether there is one. -/
theorem first_c (c : UInt8) : ∀ l : List UInt8, (∀ b ∈ l, b ≠ c) ∨ ∃ p r, l = p ++ c :: r ∧ ∀ b ∈ p, b ≠ c
  | [] => .inl (by simp)
  | b :: l => by
    by_cases hb : b = c
    · exact .inr ⟨[], l, by rw [hb]; rfl, by simp⟩
    · rcases first_c c l with h | ⟨p, r, rfl, hp⟩
      · exact .inl fun x hx => by
          rcases List.mem_cons.1 hx with rfl | hx
          · exact hb
          · exact h x hx
      · exact .inr ⟨b :: p, r, rfl, fun x hx => by
          rcases List.mem_cons.1 hx with rfl | hx
          · exact hb
          · exact hp x hx⟩
theorem join_two (x y : List UInt8) (ws : List (List UInt8)) (sep : List UInt8) : Lib.join (x :: y :: ws) sep = x ++ sep ++ Lib.join (y :: ws) sep := by
  rw [Lib.join_cons, Lib.join_cons]
  simp [Lib.joinTail]
theorem join_c (c : UInt8) (x y : List UInt8) (ws : List (List UInt8)) : Lib.join (x :: y :: ws) [c] = x ++ c :: Lib.join (y :: ws) [c] := by
  rw [join_two]
  simp
theorem cutL_join (c : UInt8) : ∀ ws : List (List UInt8), ws ≠ [] → (∀ w ∈ ws, ∀ b ∈ w, b ≠ c) → cutL c (Lib.join ws [c]) = ws
  | [], h, _ => absurd rfl h
  | [x], _, h => by rw [Lib.join_one]; exact cutL_none c x (h x (by simp))
  | x :: y :: ws, _, h => by
    rw [join_c, cutL_step c _ x (h x (by simp)), cutL_join c (y :: ws) (by simp) fun w hw => h w (by simp [hw])]
theorem join_cutL (c : UInt8) : ∀ (n : Nat) (l : List UInt8), l.length ≤ n → Lib.join (cutL c l) [c] = l
  | 0, l, h => by
    obtain rfl : l = [] := List.length_eq_zero_iff.1 (by omega)
    rw [cutL, Lib.join_one]
  | n + 1, l, h => by
    rcases first_c c l with h1 | ⟨p, r, rfl, hp⟩
    · rw [cutL_none c l h1, Lib.join_one]
    · rw [cutL_step c r p hp]
      have ih := join_cutL c n r (by simp at h; omega)
      cases hq : cutL c r with
      | nil => exact absurd hq (cutL_ne c r)
      | cons y ws => rw [join_c, ← hq, ih]
theorem cutL_pieces (c : UInt8) : ∀ (n : Nat) (l : List UInt8), l.length ≤ n → ∀ w ∈ cutL c l, (∀ b ∈ w, b ≠ c) ∧ w.length ≤ l.length
  | 0, l, h => by
    obtain rfl : l = [] := List.length_eq_zero_iff.1 (by omega)
    intro w hw
    rw [cutL, List.mem_singleton] at hw
    subst hw
    exact ⟨by simp, Nat.le_refl _⟩
  | n + 1, l, h => by
    intro w hw
    rcases first_c c l with h1 | ⟨p, r, rfl, hp⟩
    · rw [cutL_none c l h1, List.mem_singleton] at hw
      subst hw
      exact ⟨h1, Nat.le_refl _⟩
    · rw [cutL_step c r p hp, List.mem_cons] at hw
      rcases hw with rfl | hw
      · exact ⟨hp, by simp⟩
      · have := cutL_pieces c n r (by simp at h; omega) w hw
        exact ⟨this.1, by simp; omega⟩
theorem cutL_len (c : UInt8) : ∀ l : List UInt8, (cutL c l).length ≤ l.length + 1
  | [] => by simp [cutL]
  | b :: r => by
    have := cutL_len c r
    unfold cutL
    split <;> simp <;> omega

/-- The library's index of one byte. -/
theorem index_none (c : UInt8) : ∀ l : List UInt8, (∀ b ∈ l, b ≠ c) → Lib.index l [c] = -1
  | [], _ => rfl
  | b :: r, h => by
    have h1 := index_none c r fun x hx => h x (by simp [hx])
    have hb := h b (by simp)
    rw [Lib.index, if_neg (by simp [List.isPrefixOf]; exact fun e => hb e.symm), if_pos (by rw [h1]; rfl)]
theorem index_hit (c : UInt8) (r : List UInt8) : ∀ p : List UInt8, (∀ b ∈ p, b ≠ c) → Lib.index (p ++ c :: r) [c] = p.length
  | [], _ => by rw [List.nil_append, Lib.index, if_pos (by simp [List.isPrefixOf])]; rfl
  | b :: p, h => by
    have h1 := index_hit c r p fun x hx => h x (by simp [hx])
    have hb := h b (by simp)
    rw [List.cons_append, Lib.index, if_neg (by simp [List.isPrefixOf]; exact fun e => hb e.symm), h1, if_neg (by simp)]
    simp
theorem cut_none {c : UInt8} {l : List UInt8} (h : ∀ b ∈ l, b ≠ c) : Lib.cut l [c] = (l, [], false) := by
  unfold Lib.cut
  rw [index_none c l h, if_neg (by omega)]
theorem cut_hit {c : UInt8} {p r : List UInt8} (h : ∀ b ∈ p, b ≠ c) : Lib.cut (p ++ c :: r) [c] = (p, r, true) := by
  unfold Lib.cut
  rw [index_hit c r p h, if_pos (by omega), Int.toNat_natCast]
  simp
theorem splitK_cutL (c : UInt8) : ∀ (n : Nat) (l : List UInt8), l.length ≤ n → Lib.splitK [c] 0 (Lib.count l [c]) l = cutL c l
  | 0, l, h => by
    obtain rfl : l = [] := List.length_eq_zero_iff.1 (by omega)
    rfl
  | n + 1, l, h => by
    rcases first_c c l with h1 | ⟨p, r, rfl, hp⟩
    · rw [Lib.count_miss (index_none c l h1), cutL_none c l h1]
      rfl
    · have hi := index_hit c r p hp
      rw [Lib.count_hit (by simp) hi, Nat.add_comm 1, Lib.splitK, hi, if_neg (by simp), Int.toNat_natCast, cutL_step c r p hp]
      have e : (p ++ c :: r).drop (p.length + [c].length) = r := by simp
      rw [e, splitK_cutL c n r (by simp at h; omega)]
      simp
theorem count_cutL (c : UInt8) (l : List UInt8) : (cutL c l).length = Lib.count l [c] + 1 := by
  rw [← splitK_cutL c l.length l (Nat.le_refl _)]
  have h := Lib.splitB_all ⟨#[c]⟩ (Nat.le_refl 1) 0 (Lib.count l [c]) ⟨l.toArray⟩ (by show Lib.count _ _ = _; simp)
  have e := Lib.splitB_data ⟨#[c]⟩ 0 (Lib.count l [c]) ⟨l.toArray⟩
  have e2 := congrArg List.length e
  rw [List.length_map, h] at e2
  simpa using e2.symm
/-- strings.Split at one byte. -/
theorem splitB_cutL (c : UInt8) (s : ByteArray) : (Lib.splitB ⟨#[c]⟩ 0 (Lib.countB s ⟨#[c]⟩) s).map (·.data.toList) = cutL c s.data.toList := by
  rw [Lib.splitB_data]
  exact splitK_cutL c _ s.data.toList (Nat.le_refl _)
theorem join_len (c : UInt8) : ∀ ws : List (List UInt8), (Lib.join ws [c]).length ≤ Lib.lens ws + ws.length
  | [] => by simp [Lib.join_nil]
  | x :: ws => by
    rw [Lib.join_length]
    simp
    omega
end Go.Proofs.YtmojjbhjjhdpaaaDoor
