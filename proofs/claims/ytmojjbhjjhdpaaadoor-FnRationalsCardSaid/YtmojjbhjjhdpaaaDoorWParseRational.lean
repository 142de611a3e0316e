/- The walk of the law on ParseRational. -/
import Derived.Test.YtmojjbhjjhdpaaaDoorRatPar
namespace Go.Proofs.YtmojjbhjjhdpaaaDoor
open Go.RowKit

theorem eqRat_same (n d : Int) (w : World) :
    Calls Tryd.prog 22 #[.agg #[.int .i64 n, .int .i64 d], .agg #[.int .i64 n, .int .i64 d]] w fun e w' => e = .returned (.bool true) ∧ Below w.heap.size w w' := by
  go_enter Tryd.func22, Tryd.ntmps22
  go_wp2
  go_ret
  exact ⟨rfl, ((Below.refl _ _).alloc (Nat.le_refl _) _).alloc (by simp) _⟩

/-- Both texts answer alike. -/
theorem parseRational_both (s : ByteArray) (hs : s.size ≤ 1048576) : ∃ (r1 r2 : Int) (r3 : Bool),
    Hid (∀ W, Calls Tryd.prog 20 #[.string s] W fun e w' => e = .returned (.tuple #[.agg #[.int .i64 r1, .int .i64 r2], .bool r3]) ∧ Below W.heap.size W w') ∧
    Hid (∀ W, Tb W → Ev W → Mx W → Calls Tryd.prog 21 #[.string s] W fun e w' => e = .returned (.tuple #[.agg #[.int .i64 r1, .int .i64 r2], .bool r3]) ∧ Below W.heap.size W w') ∧
    (r3 = true → IsR r1 r2 s) ∧ (r3 = false → ∀ n d, ¬ IsR n d s) := by
  obtain ⟨p, q, hN⟩ := RdN.ex l2 s
  obtain ⟨p', q', hN'⟩ := RdN.ex wide s
  by_cases h0 : s = ⟨#[]⟩
  · exact ⟨0, 0, false, fun W => spec_ParseRational_nil s p q W hs hN h0, fun W t e m => impl_ParseRational_nil s p' q' W hs t e m hN' h0, (fun h => by cases h), fun _ n d h => isR_ne h h0⟩
  · by_cases h : ∃ n d, IsR n d s
    · obtain ⟨n, d, h⟩ := h
      obtain ⟨rfl, rfl⟩ := hN.yes l2_fmtI h
      obtain ⟨rfl, rfl⟩ := hN'.yes wide_fmtI h
      exact ⟨_, _, true, fun W => spec_ParseRational_yes s _ _ W hs hN h0 (fR_yes h), fun W t e m => impl_ParseRational_yes s _ _ W hs t e m hN' h0 (fR_yes h), fun _ => h, (fun h => by cases h)⟩
    · have h' : ∀ n d, ¬ IsR n d s := fun n d hn => h ⟨n, d, hn⟩
      exact ⟨0, 0, false, fun W => spec_ParseRational_no s p q W hs hN h0 (fR_no h' h0), fun W t e m => impl_ParseRational_no s p' q' W hs t e m hN' h0 (fR_no h' h0), (fun h => by cases h), fun _ => h'⟩

set_option maxRecDepth 100000 in
set_option maxHeartbeats 1000000 in
theorem parseRational_walk (a0 : ByteArray) (w : World) (ht : Tb w) (he : Ev w) (hm : Mx w) (p0 : a0.size ≤ maxLen) :
    Calls Tryd.prog 6 #[.string a0] w fun e w' => e = .returned (.bool true) ∧ Below w.heap.size w w' := by
  unfold maxLen at p0
  by_cases h0 : a0.size ≤ 1048576
  · obtain ⟨r1, r2, r3, KS, KI, _, _⟩ := parseRational_both a0 h0
    have q2 : (r3 != r3) = false := by simp
    go_enter Tryd.func6, Tryd.ntmps6
    go_wp2_with fail
    refine (KS.out _).mono ?_
    rintro e w1 ⟨rfl, b1⟩
    have b1' := b1.alloc b1.size (.cells #[.int .i64 r1, .int .i64 r2] 30)
    have k0 : (w1.alloc (.cells #[.int .i64 r1, .int .i64 r2] 30)).cell? ⟨w1.heap.size, 0, none⟩ = some (.int .i64 r1) := by simp [go_sem]
    have k1 : (w1.alloc (.cells #[.int .i64 r1, .int .i64 r2] 30)).cell? ⟨w1.heap.size, 1, none⟩ = some (.int .i64 r2) := by simp [go_sem]
    have hs : w1.heap.size < (w1.alloc (.cells #[.int .i64 r1, .int .i64 r2] 30)).heap.size := by simp
    have t1 := ht.on b1'
    have e1 := he.on b1'
    have m1 := hm.on b1'
    go_wp2_with fail
    generalize w1.alloc (.cells #[.int .i64 r1, .int .i64 r2] 30) = w2 at b1' k0 k1 hs t1 e1 m1 ⊢
    generalize w1.heap.size = B1 at k0 k1 hs ⊢
    clear b1
    refine (KI.out _ t1 e1 m1).mono ?_
    rintro e w3 ⟨rfl, b3⟩
    have q0 := (b3.cell (p := ⟨B1, 0, none⟩) hs).trans k0
    have q1 := (b3.cell (p := ⟨B1, 1, none⟩) hs).trans k1
    have hs3 : B1 < w3.heap.size := Nat.lt_of_lt_of_le hs b3.size
    have b4 := b1'.trans (b3.mono b1'.size)
    clear k0 k1 b3 b1' hs t1 e1 m1
    have bz := (Below.refl w3.heap.size w3).alloc (Nat.le_refl _) (.cells #[.int .i64 r1, .int .i64 r2] 30)
    have v0 := (bz.cell (p := ⟨B1, 0, none⟩) hs3).trans q0
    have v1 := (bz.cell (p := ⟨B1, 1, none⟩) hs3).trans q1
    have b5 := b4.alloc b4.size (.cells #[.int .i64 r1, .int .i64 r2] 30)
    clear bz
    go_wp2_with fail
    refine (eqRat_same r1 r2 _).mono ?_
    rintro e w6 ⟨rfl, b6⟩
    have b7 := b5.trans (b6.mono b5.size)
    clear b6
    go_wp2_with fail
    go_ret
    exact ⟨rfl, b7⟩
  · go_enter Tryd.func6, Tryd.ntmps6
    go_wp2_with fail
    go_ret
    exact ⟨rfl, Below.refl _ _⟩
end Go.Proofs.YtmojjbhjjhdpaaaDoor
