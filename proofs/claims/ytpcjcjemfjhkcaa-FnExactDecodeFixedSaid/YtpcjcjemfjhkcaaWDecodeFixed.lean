/- The walk of the law on DecodeFixed. No condition. -/
import Derived.Test.YtpcjcjemfjhkcaaDecFixed
namespace Go.Proofs.Ytpcjcjemfjhkcaa
open Go.RowKit
theorem decodeFixed_walk (s : ByteArray) (width : Int) (w : World) (hs : s.size ≤ maxLen) (_hw : (Lit.int .i64 width).wf = true) :
    Calls Try.prog 6 #[.string s, .int .i64 width] w fun e w' => e = .returned (.bool true) ∧ Below w.heap.size w w' := by
  unfold maxLen at hs
  have hc : ∃ (n : Int) (b : Bool), decFR s width = .tuple #[.int .i64 n, .bool b] := by
    by_cases h : 1 ≤ width ∧ width ≤ 7 ∧ width ≤ s.size
    · exact ⟨_, _, by rw [decFR, if_pos h]⟩
    · exact ⟨_, _, by rw [decFR, if_neg h]⟩
  obtain ⟨n, b, hc⟩ := hc
  have hci := impl_DecodeFixed_any s width
  have hcs := spec_DecodeFixed_any s width
  rw [hc] at hci hcs
  have Hi := Lib.hid hci
  have Hs := Lib.hid hcs
  clear hci hcs hc
  by_cases h : s.size ≤ 1048576
  · go_enter Try.func6, Try.ntmps6
    go_wp2_with fail
    refine (Hs.out _ (by omega)).mono ?_
    rintro e w1 ⟨rfl, rfl⟩
    go_wp2_with fail
    refine (Hi.out _ (by omega)).mono ?_
    rintro e w1 ⟨rfl, rfl⟩
    go_wp2_with fail
    go_ret
    exact ⟨rfl, Below.refl _ _⟩
  · go_enter Try.func6, Try.ntmps6
    go_wp2_with fail
    go_ret
    exact ⟨rfl, Below.refl _ _⟩
end Go.Proofs.Ytpcjcjemfjhkcaa
