/- The walks of the laws on IsValidRational and CeilRational. No condition. -/
import Derived.Test.YtekippmdlcbdlaaRatB
namespace Go.Proofs.Ytekippmdlcbdlaa
open Go.RowKit
/-- What holds of a later world: the boxed rational lies there, and nothing that was there has changed. -/
structure Inv1 (w : World) (n d : Int) (W : World) : Prop where
  bel : Below w.heap.size w W
  size : w.heap.size < W.heap.size
  c0 : W.cell? ⟨w.heap.size, 0, none⟩ = some (.int .i64 n)
  c1 : W.cell? ⟨w.heap.size, 1, none⟩ = some (.int .i64 d)
theorem Inv1.start (w : World) (n d : Int) (t : TypeId) : Inv1 w n d (w.alloc (.cells #[.int .i64 n, .int .i64 d] t)) :=
  ⟨(Below.refl _ _).alloc (Nat.le_refl _) _, by simp, by simp [go_sem], by simp [go_sem]⟩
theorem Inv1.next {w W W' : World} {n d : Int} (h : Inv1 w n d W) (b : Below W.heap.size W W') : Inv1 w n d W' :=
  ⟨h.bel.trans (b.mono (Nat.le_of_lt h.size)), Nat.lt_of_lt_of_le h.size b.size, (b.cell (p := ⟨w.heap.size, 0, none⟩) h.size).trans h.c0, (b.cell (p := ⟨w.heap.size, 1, none⟩) h.size).trans h.c1⟩

set_option maxRecDepth 100000 in
set_option maxHeartbeats 400000 in
theorem isValidRational_walk (n d : Int) (w : World) (_hn : (Lit.int .i64 n).wf = true) (_hd : (Lit.int .i64 d).wf = true) :
    Calls Try.prog 3 #[.agg #[.int .i64 n, .int .i64 d]] w fun e w' => e = .returned (.bool true) ∧ Below w.heap.size w w' := by
  have i0 := Inv1.start w n d 23
  go_enter Try.func3, Try.ntmps3
  go_wp2_with fail
  refine (toRational_any n d _).mono ?_
  rintro e w1 ⟨rfl, b1⟩
  have i1 := i0.next b1
  clear i0 b1
  go_wp2_with fail
  refine (spec_IsValid_any n d _).mono ?_
  rintro e w2 ⟨rfl, b2⟩
  have i2 := i1.next b2
  have k0 := i2.c0
  have k1 := i2.c1
  clear i1 b2
  go_wp2_with fail
  refine (toRational_any n d _).mono ?_
  rintro e w3 ⟨rfl, b3⟩
  have i3 := i2.next b3
  clear i2 b3
  go_wp2_with fail
  refine (impl_IsValid_any n d _).mono ?_
  rintro e w4 ⟨rfl, b4⟩
  have i4 := i3.next b4
  clear i3 b4
  go_wp2_with fail
  go_ret
  exact ⟨rfl, i4.bel⟩

set_option maxRecDepth 100000 in
set_option maxHeartbeats 400000 in
theorem ceilRational_walk (n d : Int) (w : World) (_hn : (Lit.int .i64 n).wf = true) (_hd : (Lit.int .i64 d).wf = true) :
    Calls Try.prog 4 #[.agg #[.int .i64 n, .int .i64 d]] w fun e w' => e = .returned (.bool true) ∧ Below w.heap.size w w' := by
  have i0 := Inv1.start w n d 23
  go_enter Try.func4, Try.ntmps4
  go_wp2_with fail
  refine (toRational_any n d _).mono ?_
  rintro e w1 ⟨rfl, b1⟩
  have i1 := i0.next b1
  clear i0 b1
  go_wp2_with fail
  refine (spec_Ceil_any n d _).mono ?_
  rintro e w2 ⟨rfl, b2⟩
  have i2 := i1.next b2
  have k0 := i2.c0
  have k1 := i2.c1
  clear i1 b2
  go_wp2_with fail
  refine (toRational_any n d _).mono ?_
  rintro e w3 ⟨rfl, b3⟩
  have i3 := i2.next b3
  clear i2 b3
  go_wp2_with fail
  refine (impl_Ceil_any n d _).mono ?_
  rintro e w4 ⟨rfl, b4⟩
  have i4 := i3.next b4
  clear i3 b4
  go_wp2_with fail
  go_ret
  exact ⟨rfl, i4.bel⟩
end Go.Proofs.Ytekippmdlcbdlaa
