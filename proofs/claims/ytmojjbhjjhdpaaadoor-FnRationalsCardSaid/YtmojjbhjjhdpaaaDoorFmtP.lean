/- Decimal digits: plain laws. Of no program. -/
import Derived.Test.YtmojjbhjjhdpaaaDoorBase
import Derived.Test.YtmojjbhjjhdpaaaDoorWords
import Derived.OwnWalk
import Derived.Outline
namespace Go.Proofs.YtmojjbhjjhdpaaaDoor
open Go.RowKit

/-- The decimal digits of a number. -/
def decD (n : Nat) : List UInt8 := if n < 10 then [UInt8.ofNat (48 + n)] else decD (n / 10) ++ [UInt8.ofNat (48 + n % 10)]
  termination_by n
  decreasing_by omega
theorem decD_small {n : Nat} (h : n < 10) : decD n = [UInt8.ofNat (48 + n)] := by rw [decD, if_pos h]
theorem decD_big {n : Nat} (h : ¬ n < 10) : decD n = decD (n / 10) ++ [UInt8.ofNat (48 + n % 10)] := by rw [decD, if_neg h]
/-- The text of an int. -/
def fmtI (n : Int) : List UInt8 := if n < 0 then 45 :: decD n.natAbs else decD n.natAbs
theorem fmtI_pos (N : Nat) : fmtI N = decD N := by rw [fmtI, if_neg (by omega), Int.natAbs_natCast]
theorem fmtI_neg {N : Nat} (h : 0 < N) : fmtI (-(N : Int)) = 45 :: decD N := by rw [fmtI, if_pos (by omega), Int.natAbs_neg, Int.natAbs_natCast]
theorem dig_byte (k : Nat) : (48 + UInt8.ofNat k : UInt8) = UInt8.ofNat (48 + k) := by simp
/-- m is left to be written, o is written. -/
def FInv (N m : Nat) (o : List UInt8) : Prop := (m = 0 → decD N = o) ∧ (m ≠ 0 → decD N = decD m ++ o) ∧ m ≤ N ∧ o.length ≤ 20 ∧ (m ≠ 0 → m * 10 ^ o.length ≤ N)
theorem FInv.start {N : Nat} (h : 0 < N) : FInv N N [] := ⟨fun h' => by omega, fun _ => by simp, Nat.le_refl _, by simp, fun _ => by simp⟩
theorem FInv.step {N m : Nat} {o : List UInt8} (h : FInv N m o) (hm : m ≠ 0) (hN : N ≤ 9223372036854775808) : FInv N (m / 10) (UInt8.ofNat (48 + m % 10) :: o) := by
  obtain ⟨_, h2, h3, h4, h5⟩ := h
  have hl : o.length ≤ 19 := by
    rcases Nat.lt_or_ge 19 o.length with hh | hh
    · have h6 := h5 hm
      have h7 : 10 ^ 20 ≤ 10 ^ o.length := Nat.pow_le_pow_right (by omega) hh
      have h8 : 1 * 10 ^ o.length ≤ m * 10 ^ o.length := Nat.mul_le_mul_right _ (by omega)
      omega
    · exact hh
  refine ⟨fun h0 => ?_, fun h0 => ?_, by omega, by simp; omega, fun h0 => ?_⟩
  · rw [h2 hm, decD_small (by omega), show m % 10 = m from by omega]
    rfl
  · rw [h2 hm, decD_big (by omega), List.append_assoc]
    rfl
  · have h6 := h5 hm
    rw [List.length_cons, Nat.pow_succ, Nat.mul_comm (10 ^ o.length) 10, ← Nat.mul_assoc]
    have h9 : m / 10 * 10 * 10 ^ o.length ≤ m * 10 ^ o.length := Nat.mul_le_mul_right _ (by omega)
    omega

end Go.Proofs.YtmojjbhjjhdpaaaDoor
