/- Rationals: IsValidRational, both texts; toRational. No condition but that an int is an int. -/
import Derived.Test.YtmojjbhjjhdpaaaDoorGcd
import Derived.Deep.QuietTactic
import Derived.BigQuiet
namespace Go.Proofs.YtmojjbhjjhdpaaaDoor
open Go.RowKit

def validR (n d : Int) : Bool := inB d 1 2147483647 && (inB n (-2147483647) 2147483647 && ((Int.gcd n d : Int) == 1))
theorem validR_1 {n d : Int} (h : inB d 1 2147483647 = false) : validR n d = false := by rw [validR, h]; rfl
theorem validR_2 {n d : Int} (h : inB n (-2147483647) 2147483647 = false) : validR n d = false := by rw [validR, h]; simp
theorem validR_3 {n d : Int} (h1 : inB d 1 2147483647 = true) (h2 : inB n (-2147483647) 2147483647 = true) : validR n d = ((Int.gcd n d : Int) == 1) := by rw [validR, h1, h2]; simp

set_option maxRecDepth 100000 in
set_option maxHeartbeats 400000 in
theorem impl_IsValid_any (n d : Int) (w : World) :
    Calls Tryd.prog 60 #[.agg #[.int .i64 n, .int .i64 d]] w fun e w' => e = .returned (.bool (validR n d)) ∧ Below w.heap.size w w' := by
  cases h1 : inB d 1 2147483647 with
  | false =>
    have hf := Lib.hid (validR_1 (n := n) h1)
    go_enter Tryd.func60, Tryd.ntmps60
    go_wp2_with (go_at_call 67; refine (within_any _ _ _ _).mono ?_; rintro e w' ⟨rfl, rfl⟩)
    go_ret
    exact ⟨by rw [hf.out] <;> rfl, (Below.refl _ _).alloc (Nat.le_refl _) _⟩
  | true =>
    cases h2 : inB n (-2147483647) 2147483647 with
    | false =>
      have hf := Lib.hid (validR_2 (d := d) h2)
      go_enter Tryd.func60, Tryd.ntmps60
      go_wp2_with (go_at_call 67; refine (within_any _ _ _ _).mono ?_; rintro e w' ⟨rfl, rfl⟩)
      go_ret
      exact ⟨by rw [hf.out] <;> rfl, (Below.refl _ _).alloc (Nat.le_refl _) _⟩
    | true =>
      have hf := Lib.hid (validR_3 h1 h2)
      obtain ⟨d1, d2⟩ := inB_iff.1 h1
      obtain ⟨n1, n2⟩ := inB_iff.1 h2
      go_enter Tryd.func60, Tryd.ntmps60
      go_wp2_with (first | (go_at_call 67; refine (within_any _ _ _ _).mono ?_; rintro e w' ⟨rfl, rfl⟩) | (go_at_call 101; refine (impl_gcd_any n d _ (by omega) (by omega) (by omega) (by omega)).mono ?_; rintro e w1 ⟨rfl, hb⟩))
      go_ret
      exact ⟨by rw [hf.out] <;> rfl, ((Below.refl _ _).alloc (Nat.le_refl _) _).trans (hb.mono (by simp))⟩

set_option maxRecDepth 100000 in
set_option maxHeartbeats 400000 in
theorem spec_IsValid_any (n d : Int) (w : World) :
    Calls Tryd.prog 54 #[.agg #[.int .i64 n, .int .i64 d]] w fun e w' => e = .returned (.bool (validR n d)) ∧ Below w.heap.size w w' := by
  cases h1 : inB d 1 2147483647 with
  | false =>
    have hf := Lib.hid (validR_1 (n := n) h1)
    have K1 := Lib.hid (show ∀ W : World, Calls Tryd.prog 96 #[.int .i64 d, .int .i64 (1), .int .i64 2147483647] W fun e w' => e = .returned (.bool false) ∧ W = w' from fun W => by have := l1In_any d (1) 2147483647 W; rwa [h1] at this)
    go_enter Tryd.func54, Tryd.ntmps54
    go_wp2_with fail
    go_quiet ((go_at_call 96; exact quiet_left (K1.out _)))
    go_wp2
    go_ret
    exact ⟨by rw [hf.out] <;> rfl, below_drewN ((Below.refl _ _).alloc (Nat.le_refl _) _) _⟩
  | true =>
    cases h2 : inB n (-2147483647) 2147483647 with
    | false =>
      have hf := Lib.hid (validR_2 (d := d) h2)
      have K1 := Lib.hid (show ∀ W : World, Calls Tryd.prog 96 #[.int .i64 d, .int .i64 (1), .int .i64 2147483647] W fun e w' => e = .returned (.bool true) ∧ W = w' from fun W => by have := l1In_any d (1) 2147483647 W; rwa [h1] at this)
      have K2 := Lib.hid (show ∀ W : World, Calls Tryd.prog 96 #[.int .i64 n, .int .i64 (-2147483647), .int .i64 2147483647] W fun e w' => e = .returned (.bool false) ∧ W = w' from fun W => by have := l1In_any n (-2147483647) 2147483647 W; rwa [h2] at this)
      go_enter Tryd.func54, Tryd.ntmps54
      go_wp2_with fail
      have c0' : (w.alloc (.cells #[.int .i64 n, .int .i64 d] 30)).cell? ⟨w.heap.size, 0, none⟩ = some (.int .i64 n) := by simp [World.cell?_alloc_at]
      have c1' : (w.alloc (.cells #[.int .i64 n, .int .i64 d] 30)).cell? ⟨w.heap.size, 1, none⟩ = some (.int .i64 d) := by simp [World.cell?_alloc_at]
      have hbel : Below w.heap.size w (w.alloc (.cells #[.int .i64 n, .int .i64 d] 30)) := (Below.refl _ _).alloc (Nat.le_refl _) _
      generalize w.alloc (.cells #[.int .i64 n, .int .i64 d] 30) = W at *
      go_quiet ((go_at_call 96; first | (with_reducible exact quiet_left (K1.out _)) | (with_reducible exact quiet_left (K2.out _))))
      go_wp2
      go_ret
      exact ⟨by rw [hf.out] <;> rfl, below_drewN hbel _⟩
    | true =>
      obtain ⟨d1, d2⟩ := inB_iff.1 h1
      obtain ⟨n1, n2⟩ := inB_iff.1 h2
      have K2 := Lib.hid (show ∀ W : World, Calls Tryd.prog 96 #[.int .i64 n, .int .i64 (-2147483647), .int .i64 2147483647] W fun e w' => e = .returned (.bool true) ∧ W = w' from fun W => by have := l1In_any n (-2147483647) 2147483647 W; rwa [h2] at this)
      obtain ⟨D, rfl⟩ := Int.eq_ofNat_of_zero_le (show 0 ≤ d by omega)
      have hf : Hid (validR n D = (((Nat.gcd n.natAbs D : Nat) : Int) == 1)) := validR_3 h1 h2
      have K1 := Lib.hid (show ∀ W : World, Calls Tryd.prog 96 #[.int .i64 D, .int .i64 (1), .int .i64 2147483647] W fun e w' => e = .returned (.bool true) ∧ W = w' from fun W => by have := l1In_any D (1) 2147483647 W; rwa [h1] at this)
      have c1 : -9223372036854775807 ≤ n := by omega
      have c2 : n ≤ 9223372036854775807 := by omega
      have c3 : n.natAbs ≤ 9223372036854775807 := by omega
      have c4 : D ≤ 9223372036854775807 := by omega
      go_enter Tryd.func54, Tryd.ntmps54
      go_wp2_with fail
      have c0' : (w.alloc (.cells #[.int .i64 n, .int .i64 D] 30)).cell? ⟨w.heap.size, 0, none⟩ = some (.int .i64 n) := by simp [World.cell?_alloc_at]
      have c1' : (w.alloc (.cells #[.int .i64 n, .int .i64 D] 30)).cell? ⟨w.heap.size, 1, none⟩ = some (.int .i64 D) := by simp [World.cell?_alloc_at]
      have hbel : Below w.heap.size w (w.alloc (.cells #[.int .i64 n, .int .i64 D] 30)) := (Below.refl _ _).alloc (Nat.le_refl _) _
      generalize w.alloc (.cells #[.int .i64 n, .int .i64 D] 30) = W at *
      go_quiet ((first | (go_at_call 96; first | (with_reducible exact quiet_left (K1.out _)) | (with_reducible exact quiet_left (K2.out _))) | (go_at_call 100; exact quiet_left (l2Abs_any n _ c1 c2)) | (go_at_call 99; exact quiet_left (l2Gcd_any n.natAbs D _ c3 c4))))
      go_wp2
      go_ret
      exact ⟨by rw [hf.out] <;> rfl, below_drewN hbel _⟩

set_option maxHeartbeats 400000 in
theorem toRational_any (n d : Int) (w : World) :
    Calls Tryd.prog 18 #[.agg #[.int .i64 n, .int .i64 d]] w fun e w' => e = .returned (.agg #[.int .i64 n, .int .i64 d]) ∧ Below w.heap.size w w' := by
  go_enter Tryd.func18, Tryd.ntmps18
  go_wp2
  refine bodyPost_ret (v := .agg #[.int .i64 n, .int .i64 d]) (by simp [results, Tryd.results18, go_sem]) rfl ⟨rfl, ?_⟩
  repeat first | exact Below.refl _ _ | (refine Below.setCell ?_ ?_ _; rotate_left; (simp; try omega)) | (refine Below.alloc ?_ ?_ _; rotate_left; (simp; try omega)) | refine Below.drew ?_
end Go.Proofs.YtmojjbhjjhdpaaaDoor
