/- Answers of a table and a bool, and their bounds. Of no program. -/
import Derived.Test.YtanlhbmpjfamkaaDel
namespace Go.Proofs.Ytanlhbmpjfamkaa
open Go.RowKit Go.Deep

/-- TabBool, its parts apart. -/
def TabAns (nm : ByteArray) (ar : Int) (rs : List (List Int)) (ok : Bool) (w : World) (e : Ending) (w' : World) : Prop :=
  ∃ (A : Option Addr) (c : Nat), e = .returned (.tuple #[.agg #[.string nm, .int .i64 ar, .slice A rs.length c], .bool ok]) ∧ OwnR w' w.heap.size w'.heap.size (.slice A rs.length c) rs ∧ Below w.heap.size w w'
theorem sumL_filter (p : List Int → Bool) (rs : List (List Int)) : sumL (rs.filter p) ≤ sumL rs := by
  induction rs with
  | nil => exact Nat.le_refl _
  | cons r rs ih =>
    rw [sumL_cons, List.filter_cons]
    by_cases h : p r = true
    · rw [if_pos h, sumL_cons]
      omega
    · rw [if_neg h]
      omega
theorem delR_small (nm : ByteArray) (ar : Int) (rs : List (List Int)) (r : List Int) (hb : rs.length ≤ 1048576) (hs : sumL rs ≤ 1048576) : (delR nm ar rs r).rs.length ≤ 1048576 ∧ sumL (delR nm ar rs r).rs ≤ 4294967296 := by
  unfold delR
  by_cases h : contB nm ar rs r = true
  · rw [if_pos h]
    exact ⟨Nat.le_trans (List.length_filter_le _ _) hb, Nat.le_trans (sumL_filter _ _) (by omega)⟩
  · rw [if_neg h]
    exact ⟨hb, by show sumL rs ≤ _; omega⟩
end Go.Proofs.Ytanlhbmpjfamkaa
