/- The library's variables that the walks read, and strconv.Itoa. Of no condition but that the table of powers reads as it is laid. -/
import Derived.Test.YtmojjbhjjhdpaaaDoorNumT
import Derived.Test.YtmojjbhjjhdpaaaDoorShelf
import Derived.Lib.AppendIntMem
namespace Go.Proofs.YtmojjbhjjhdpaaaDoor
open Go.RowKit Go.Sort

/-- The library's table of the powers of ten reads as its initialiser lays it. -/
def Tb (w : World) : Prop := Lib.TabIs Tryd.prog w "internal/strconv.uint64pow10" .u64 Lib.pow10Tab
theorem Tb.on {w w' : World} (h : Tb w) (hb : Below w.heap.size w w') : Tb w' := Lib.tabBelow_of_tabIs h w' hb
theorem Tb.of_heap {w w' : World} (h : Tb w) (e : w'.heap = w.heap) : Tb w' := by
  unfold Tb Lib.TabIs World.var? at *
  rw [e]
  exact h
theorem below_grow (w : World) (q : Nat) (os : Array Obj) : Below w.heap.size w (grow (w.drewN q) os) :=
  ⟨rfl, rfl, rfl, by show w.heap.size ≤ (w.heap ++ os).size; simp, fun k hk => by show (w.heap ++ os)[k]? = w.heap[k]?; rw [Array.getElem?_append_left hk]⟩

theorem itoa_any (n : Int) (w : World) (h1 : -9223372036854775808 ≤ n) (h2 : n ≤ 9223372036854775807) (ht : Tb w) :
    Calls Tryd.prog 65 #[.int .i64 n] w fun e w' => e = .returned (.string ⟨(fmtI n).toArray⟩) ∧ Below w.heap.size w w' := by
  refine (Tryd.strconv_Itoa n h1 h2 w ht).mono fun e w' h => ?_
  obtain ⟨he, k, os, rfl⟩ := h
  exact ⟨by rw [he, itoa_eq], below_grow w k os⟩

set_option maxRecDepth 100000 in
theorem impl_FormatInt_any (n : Int) (w : World) (h1 : -9223372036854775808 ≤ n) (h2 : n ≤ 9223372036854775807) (ht : Tb w) :
    Calls Tryd.prog 14 #[.int .i64 n] w fun e w' => e = .returned (.string ⟨(fmtI n).toArray⟩) ∧ Below w.heap.size w w' := by
  go_enter Tryd.func14, Tryd.ntmps14
  go_wp2_with (go_at_call 65; refine (itoa_any n _ h1 h2 ht).mono ?_; rintro e w1 ⟨rfl, hb⟩)
  go_ret
  exact ⟨rfl, hb⟩
end Go.Proofs.YtmojjbhjjhdpaaaDoor
