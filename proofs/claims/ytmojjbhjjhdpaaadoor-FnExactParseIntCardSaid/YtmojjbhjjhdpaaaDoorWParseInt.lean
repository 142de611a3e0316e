/- The walk of the law on ParseInt. -/
import Derived.Test.YtmojjbhjjhdpaaaDoorParS
namespace Go.Proofs.YtmojjbhjjhdpaaaDoor
open Go.RowKit
set_option maxRecDepth 100000 in
set_option maxHeartbeats 1000000 in
theorem parseInt_walk (a0 : ByteArray) (w : World) (ht : Tb w) (he : Ev w) (p0 : a0.size ≤ maxLen) :
    Calls Tryd.prog 4 #[.string a0] w fun e w' => e = .returned (.bool true) ∧ Below w.heap.size w w' := by
  unfold maxLen at p0
  by_cases h0 : a0.size ≤ 1048576
  · obtain ⟨m, b, KS, KI⟩ : ∃ (m : Int) (b : Bool), Hid (∀ W, Calls Tryd.prog 15 #[.string a0] W fun e w' => e = .returned (.tuple #[.int .i64 m, .bool b]) ∧ Below W.heap.size W w') ∧
        Hid (∀ W, Tb W → Ev W → Calls Tryd.prog 16 #[.string a0] W fun e w' => e = .returned (.tuple #[.int .i64 m, .bool b]) ∧ Below W.heap.size W w') := by
      by_cases h : ∃ n, IsI n a0.data.toList
      · obtain ⟨n, h⟩ := h
        exact ⟨n, true, fun W => spec_ParseInt_yes n a0 W h0 h, fun W t _ => impl_ParseInt_yes n a0 W t h⟩
      · have h' : ∀ n, ¬ IsI n a0.data.toList := fun n hn => h ⟨n, hn⟩
        exact ⟨0, false, fun W => spec_ParseInt_no a0 W h0 h', fun W t e => impl_ParseInt_no a0 W h0 t e h'⟩
    have q1 : (m != m) = false := by simp
    have q2 : (b != b) = false := by simp
    go_enter Tryd.func4, Tryd.ntmps4
    go_wp2_with fail
    refine (KS.out _).mono ?_
    rintro e w1 ⟨rfl, b1⟩
    have t1 := ht.on b1
    have e1 := he.on b1
    go_wp2_with fail
    refine (KI.out _ t1 e1).mono ?_
    rintro e w2 ⟨rfl, b2⟩
    have t2 := b1.trans (b2.mono b1.size)
    go_wp2_with fail
    go_ret
    exact ⟨rfl, t2⟩
  · go_enter Tryd.func4, Tryd.ntmps4
    go_wp2_with fail
    go_ret
    exact ⟨rfl, Below.refl _ _⟩
end Go.Proofs.YtmojjbhjjhdpaaaDoor
