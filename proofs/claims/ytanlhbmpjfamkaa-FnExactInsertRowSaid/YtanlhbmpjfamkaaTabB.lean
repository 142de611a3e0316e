/- Answers of a table and a bool, and their bounds. Of no program. -/
import Derived.Test.YtanlhbmpjfamkaaDel
namespace Go.Proofs.Ytanlhbmpjfamkaa
open Go.RowKit Go.Deep

/-- TabBool, its parts apart. -/
def TabAns (nm : ByteArray) (ar : Int) (rs : List (List Int)) (ok : Bool) (w : World) (e : Ending) (w' : World) : Prop :=
  ∃ (A : Option Addr) (c : Nat), e = .returned (.tuple #[.agg #[.string nm, .int .i64 ar, .slice A rs.length c], .bool ok]) ∧ OwnR w' w.heap.size w'.heap.size (.slice A rs.length c) rs ∧ Below w.heap.size w w'
theorem sumL_filter (p : List Int → Bool) (rs : List (List Int)) : sumL (rs.filter p) ≤ sumL rs := by
  induction rs with
  | nil => exact Nat.le_refl _
  | cons r rs ih =>
    rw [sumL_cons, List.filter_cons]
    by_cases h : p r = true
    · rw [if_pos h, sumL_cons]
      omega
    · rw [if_neg h]
      omega
theorem delR_small (nm : ByteArray) (ar : Int) (rs : List (List Int)) (r : List Int) (hb : rs.length ≤ 1048576) (hs : sumL rs ≤ 1048576) : (delR nm ar rs r).rs.length ≤ 1048576 ∧ sumL (delR nm ar rs r).rs ≤ 4294967296 := by
  unfold delR
  by_cases h : contB nm ar rs r = true
  · rw [if_pos h]
    exact ⟨Nat.le_trans (List.length_filter_le _ _) hb, Nat.le_trans (sumL_filter _ _) (by omega)⟩
  · rw [if_neg h]
    exact ⟨hb, by show sumL rs ≤ _; omega⟩
theorem szRows_any (A : Option Addr) (n c B : Nat) (left : Int) (rs : List (List Int)) (w : World) (hr : RdR w B A n rs) (hB : B ≤ w.heap.size) (h0 : 0 ≤ left) (hl : left ≤ 1048576) (hn : n ≤ 9223372036854775807) :
    Calls Try.prog 25 #[.slice A n c, .int .i64 left] w (SzPostB (n + sumL rs) left w) :=
  (szIntSS_any A n c left rs w (RdR.more hr hB) h0 hl hn).mono fun _ _ ⟨r, h1, h2, h3⟩ => ⟨r, h1, h2, by subst h3; exact Below.refl _ _⟩
theorem eqRows_same (A A' : Option Addr) (n c n' c' B B' : Nat) (rs : List (List Int)) (w : World) (hr : RdR w B A n rs) (hr' : RdR w B' A' n' rs) (hB : B ≤ w.heap.size) (hB' : B' ≤ w.heap.size) (hn : rs.length ≤ 1048576) :
    Calls Try.prog 29 #[.slice A n c, .slice A' n' c'] w fun e w' => e = .returned (.bool true) ∧ Below w.heap.size w w' :=
  (eqIntSS_q A A' n c n' c' rs rs w (RdR.more hr hB) (RdR.more hr' hB') (by have := hr.1; omega) (by have := hr'.1; omega)).mono fun _ _ ⟨h1, h2⟩ => ⟨by rw [h1]; simp, h2.below _⟩
end Go.Proofs.Ytanlhbmpjfamkaa
