/- The plain functions of the integer encodings, and their laws. Of no program. -/
import Derived.Test.YtpcjcjemfjhkcaaWords
namespace Go.Proofs.Ytpcjcjemfjhkcaa

/-- The varint: groups of seven bits, the lowest first. -/
def encv (n : Nat) : List UInt8 := if n < 128 then [UInt8.ofNat n] else UInt8.ofNat (128 + n % 128) :: encv (n / 128)
  termination_by n
  decreasing_by omega
theorem encv_small {n : Nat} (h : n < 128) : encv n = [UInt8.ofNat n] := by rw [encv, if_pos h]
theorem encv_big {n : Nat} (h : ¬ n < 128) : encv n = UInt8.ofNat (128 + n % 128) :: encv (n / 128) := by rw [encv, if_neg h]

/-- The lowest w bytes of n, the highest first. -/
def encF : Nat → Nat → List UInt8
  | 0, _ => []
  | w + 1, n => encF w (n / 256) ++ [UInt8.ofNat (n % 256)]
theorem encF_length : ∀ (w n : Nat), (encF w n).length = w
  | 0, _ => rfl
  | w + 1, n => by simp [encF, encF_length w]
theorem encF_cons : ∀ (w n : Nat), encF (w + 1) n = UInt8.ofNat (n / 256 ^ w % 256) :: encF w n
  | 0, n => by simp [encF]
  | w + 1, n => by
    show encF (w + 1) (n / 256) ++ _ = _
    rw [encF_cons w (n / 256), encF, List.cons_append, Nat.div_div_eq_div_mul, show 256 * 256 ^ w = 256 ^ (w + 1) from by rw [Nat.pow_succ, Nat.mul_comm]]

/-- The number that bytes say, the highest first. -/
def decF (l : List UInt8) : Nat := l.foldl (fun n b => n * 256 + b.toNat) 0
theorem decF_snoc (l : List UInt8) (b : UInt8) : decF (l ++ [b]) = decF l * 256 + b.toNat := by simp [decF]
theorem decF_from : ∀ (l : List UInt8) (a : Nat), l.foldl (fun n b => n * 256 + b.toNat) a < (a + 1) * 256 ^ l.length
  | [], a => by simp
  | b :: l, a => by
    have h := decF_from l (a * 256 + b.toNat)
    have hb := b.toNat_lt
    have h2 : (a * 256 + b.toNat + 1) * 256 ^ l.length ≤ (a + 1) * 256 * 256 ^ l.length := Nat.mul_le_mul_right _ (by omega)
    rw [List.foldl_cons, List.length_cons, Nat.pow_succ, Nat.mul_comm (256 ^ l.length) 256, ← Nat.mul_assoc]
    exact Nat.lt_of_lt_of_le h h2
theorem decF_lt (l : List UInt8) : decF l < 256 ^ l.length := by simpa [decF] using decF_from l 0
end Go.Proofs.Ytpcjcjemfjhkcaa
