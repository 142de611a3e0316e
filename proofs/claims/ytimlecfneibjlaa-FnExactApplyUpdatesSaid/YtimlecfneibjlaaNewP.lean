/- TabB, RowsB, NewP, in one text (a claim has at most 60 files). -/
import Derived.Test.YtimlecfneibjlaaDel
import Derived.Test.YtimlecfneibjlaaTab
import Derived.Test.YtimlecfneibjlaaPut
import Derived.Test.YtimlecfneibjlaaDelS
namespace Go.Proofs.Ytimlecfneibjlaa
open Go.RowKit Go.Deep

theorem sumL_filter (p : List Int → Bool) (rs : List (List Int)) : sumL (rs.filter p) ≤ sumL rs := by
  induction rs with
  | nil => exact Nat.le_refl _
  | cons r rs ih =>
    rw [sumL_cons, List.filter_cons]
    by_cases h : p r = true
    · rw [if_pos h, sumL_cons]
      omega
    · rw [if_neg h]
      omega
theorem delR_small (nm : ByteArray) (ar : Int) (rs : List (List Int)) (r : List Int) (hb : rs.length ≤ 1048576) (hs : sumL rs ≤ 1048576) : (delR nm ar rs r).rs.length ≤ 1048576 ∧ sumL (delR nm ar rs r).rs ≤ 4294967296 := by
  unfold delR
  by_cases h : contB nm ar rs r = true
  · rw [if_pos h]
    exact ⟨Nat.le_trans (List.length_filter_le _ _) hb, Nat.le_trans (sumL_filter _ _) (by omega)⟩
  · rw [if_neg h]
    exact ⟨hb, by show sumL rs ≤ _; omega⟩
end Go.Proofs.Ytimlecfneibjlaa
namespace Go.Proofs.Ytimlecfneibjlaa
open Go.RowKit Go.Deep

theorem szRows_any (A : Option Addr) (n c B : Nat) (left : Int) (rs : List (List Int)) (w : World) (hr : RdR w B A n rs) (hB : B ≤ w.heap.size) (h0 : 0 ≤ left) (hl : left ≤ 1048576) (hn : n ≤ 9223372036854775807) :
    Calls Try.prog 71 #[.slice A n c, .int .i64 left] w (SzPostB (n + sumL rs) left w) :=
  (szIntSS_any A n c left rs w (RdR.more hr hB) h0 hl hn).mono fun _ _ ⟨r, h1, h2, h3⟩ => ⟨r, h1, h2, by subst h3; exact Below.refl _ _⟩
theorem eqRows_same (A A' : Option Addr) (n c n' c' B B' : Nat) (rs : List (List Int)) (w : World) (hr : RdR w B A n rs) (hr' : RdR w B' A' n' rs) (hB : B ≤ w.heap.size) (hB' : B' ≤ w.heap.size) (hn : rs.length ≤ 1048576) :
    Calls Try.prog 67 #[.slice A n c, .slice A' n' c'] w fun e w' => e = .returned (.bool true) ∧ Below w.heap.size w w' :=
  (eqIntSS_q A A' n c n' c' rs rs w (RdR.more hr hB) (RdR.more hr' hB') (by have := hr.1; omega) (by have := hr'.1; omega)).mono fun _ _ ⟨h1, h2⟩ => ⟨by rw [h1]; simp, h2.below _⟩
end Go.Proofs.Ytimlecfneibjlaa
namespace Go.Proofs.Ytimlecfneibjlaa
open Go.RowKit Go.Deep

/-- What NewTable answers. -/
def newR (nm : ByteArray) (ar : Int) (rs : List (List Int)) : TabR := if validT nm ar (sortL rs) = true then ⟨nm, ar, sortL rs, true⟩ else ⟨{ data := #[] }, 0, [], false⟩
theorem validT_long {nm : ByteArray} {ar : Int} {rs : List (List Int)} (h : 8 < rs.length) : validT nm ar rs = false := by
  unfold validT
  rw [decide_eq_false (by omega)]
  simp
theorem newR_of {nm : ByteArray} {ar : Int} {rs R : List (List Int)} {b : Bool} (h : R = sortL rs ∨ (8 < R.length ∧ 8 < (sortL rs).length)) (hb : validT nm ar R = b) : newR nm ar rs = if b = true then ⟨nm, ar, R, true⟩ else ⟨{ data := #[] }, 0, [], false⟩ := by
  rcases h with rfl | ⟨h1, h2⟩
  · rw [newR, hb]
  · rw [newR, validT_long h2, ← hb, validT_long h1]
    rfl
theorem newR_small (nm : ByteArray) (ar : Int) (rs : List (List Int)) (hb : rs.length ≤ 1048576) (hs : sumL rs ≤ 1048576) : (newR nm ar rs).rs.length ≤ 1048576 ∧ sumL (newR nm ar rs).rs ≤ 4294967296 := by
  unfold newR
  by_cases h : validT nm ar (sortL rs) = true
  · rw [if_pos h]
    exact ⟨Nat.le_trans (sortL_len rs) hb, Nat.le_trans (sortL_sum rs) (by omega)⟩
  · rw [if_neg h]
    exact ⟨Nat.zero_le _, Nat.zero_le _⟩

end Go.Proofs.Ytimlecfneibjlaa
