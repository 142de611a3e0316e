/- strconv.Atoi at every string that the laws let in: a number, or an error that is not nil. -/
import Derived.Test.YtmojjbhjjhdpaaaDoorParT
import Derived.Test.YtmojjbhjjhdpaaaDoorDoorE
namespace Go.Proofs.YtmojjbhjjhdpaaaDoor
open Go.RowKit

theorem atoi_yes (s : ByteArray) (v : Int) (w : World) (hs : s.size ≤ 1048576) (h : Lib.atoiAll s.data.toList = .ok v) :
    Calls Tryd.prog 66 #[.string s] w fun e w' => e = .returned (.tuple #[.int .i64 v, .nilIface]) ∧ Below w.heap.size w w' := by
  refine (Tryd.strconv_Atoi_ok s (by omega) v h w).mono fun e w' h => ?_
  obtain ⟨he, rfl | ⟨t, rfl⟩⟩ := h
  · exact ⟨he, Below.refl _ _⟩
  · exact ⟨he, Lib.bytesWorld_below _ _ _⟩
/-- An error that is not nil. -/
def AtoiErr (w : World) (e : Ending) (w' : World) : Prop := ∃ (n : Int) (N : Nat), e = .returned (.tuple #[.int .i64 n, .iface 140 (.pointer (some ⟨N, 0, none⟩))]) ∧ Below w.heap.size w w'
theorem atoi_no (s : ByteArray) (w : World) (hs : s.size ≤ 1048576) (he : Ev w) (h : ∀ v, ¬ Lib.atoiAll s.data.toList = .ok v) :
    Calls Tryd.prog 66 #[.string s] w (AtoiErr w) := by
  obtain ⟨⟨t1, p1, e1⟩, t2, p2, e2⟩ := he
  cases hc : Lib.atoiAll s.data.toList with
  | ok v => exact absurd hc (h v)
  | «syntax» => exact (Tryd.strconv_Atoi_syntax_var s (by omega) hc t1 p1 w e1).mono fun e w' ⟨N, h1, _, _, h4⟩ => ⟨_, N, h1, h4⟩
  | range => exact (Tryd.strconv_Atoi_range_var s (by omega) hc t2 p2 w e2).mono fun e w' ⟨N, h1, _, _, h4⟩ => ⟨_, N, h1, h4⟩
end Go.Proofs.YtmojjbhjjhdpaaaDoor
