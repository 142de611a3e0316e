/- MakeRational, both texts. No condition but that an int is an int. -/
import Derived.Test.YtmojjbhjjhdpaaaDoorRatB
namespace Go.Proofs.YtmojjbhjjhdpaaaDoor
open Go.RowKit

/-- MakeRational on num and den > 0. -/
def makeP (n d : Int) : Int × Int × Bool :=
  if validR (n.tdiv (Int.gcd n d)) (d.tdiv (Int.gcd n d)) = true then (n.tdiv (Int.gcd n d), d.tdiv (Int.gcd n d), true) else (0, 0, false)
/-- MakeRational. -/
def makeR (n d : Int) : Int × Int × Bool :=
  if d = 0 ∨ n < -9223372036854775807 ∨ d < -9223372036854775807 then (0, 0, false)
  else if d < 0 then makeP (-n) (-d) else makeP n d
theorem makeR_bad {n d : Int} (h : d = 0 ∨ n < -9223372036854775807 ∨ d < -9223372036854775807) : makeR n d = (0, 0, false) := by rw [makeR, if_pos h]
theorem makeR_neg {n d : Int} (h : ¬(d = 0 ∨ n < -9223372036854775807 ∨ d < -9223372036854775807)) (hd : d < 0) : makeR n d = makeP (-n) (-d) := by rw [makeR, if_neg h, if_pos hd]
theorem makeR_pos {n d : Int} (h : ¬(d = 0 ∨ n < -9223372036854775807 ∨ d < -9223372036854775807)) (hd : ¬ d < 0) : makeR n d = makeP n d := by rw [makeR, if_neg h, if_neg hd]
theorem makeP_1 {n d : Int} (h : validR (n.tdiv (Int.gcd n d)) (d.tdiv (Int.gcd n d)) = true) : makeP n d = (n.tdiv (Int.gcd n d), d.tdiv (Int.gcd n d), true) := by rw [makeP, if_pos h]
theorem makeP_2 {n d : Int} (h : validR (n.tdiv (Int.gcd n d)) (d.tdiv (Int.gcd n d)) = false) : makeP n d = (0, 0, false) := by rw [makeP, if_neg (by simp [h])]
/-- The value that a maker of rationals returns. -/
def ratV (r : Int × Int × Bool) : Value := .tuple #[.agg #[.int .i64 r.1, .int .i64 r.2.1], .bool r.2.2]
theorem ratV_of {r : Int × Int × Bool} {n d : Int} {b : Bool} (h : r = (n, d, b)) : ratV r = .tuple #[.agg #[.int .i64 n, .int .i64 d], .bool b] := by rw [h]; rfl

theorem gcd_facts {n d : Int} (hd : 1 ≤ d) (hd2 : d ≤ 9223372036854775807) (hn1 : -9223372036854775807 ≤ n) (hn2 : n ≤ 9223372036854775807) :
    ((((Int.gcd n d : Nat) : Int) == 0) = false) ∧ 1 ≤ ((Int.gcd n d : Nat) : Int) ∧ IntKind.i64.wrap (n.tdiv (Int.gcd n d)) = n.tdiv (Int.gcd n d) ∧ IntKind.i64.wrap (d.tdiv (Int.gcd n d)) = d.tdiv (Int.gcd n d) := by
  have h0 : 0 < Int.gcd n d := Int.gcd_pos_of_ne_zero_right _ (by omega)
  have h1 : (n.tdiv (Int.gcd n d)).natAbs ≤ n.natAbs := by rw [Int.natAbs_tdiv]; exact Nat.div_le_self _ _
  have h2 : (d.tdiv (Int.gcd n d)).natAbs ≤ d.natAbs := by rw [Int.natAbs_tdiv]; exact Nat.div_le_self _ _
  refine ⟨by simp; omega, by omega, IntWalk.i64_in _ (by omega), IntWalk.i64_in _ (by omega)⟩
end Go.Proofs.YtmojjbhjjhdpaaaDoor
