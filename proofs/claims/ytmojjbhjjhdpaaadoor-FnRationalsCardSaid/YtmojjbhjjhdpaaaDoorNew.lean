/- What a call hands back when it makes a slice of ints. -/
import Derived.Test.YtmojjbhjjhdpaaaDoorInts
namespace Go.Proofs.YtmojjbhjjhdpaaaDoor
open Go.RowKit Go.Deep

/-- New ints and a bool, behind a name. -/
def IntsBool (R : List Int × Bool) (w : World) (e : Ending) (w' : World) : Prop :=
  ∃ (A : Option Addr) (c : Nat), e = .returned (.tuple #[.slice A R.1.length c, .bool R.2]) ∧ OwnI w' w.heap.size w'.heap.size (.slice A R.1.length c) R.1 ∧ Below w.heap.size w w'
theorem IntsBool.of {R : List Int × Bool} {w w' : World} {A : Option Addr} {n c : Nat} {zs : List Int} {b : Bool} (hR : R = (zs, b)) (h : OwnI w' w.heap.size w'.heap.size (.slice A n c) zs) (hb : Below w.heap.size w w') :
    IntsBool R w (.returned (.tuple #[.slice A n c, .bool b])) w' := by
  subst hR
  have hn : zs.length = n := by have := own_form h.1; obtain ⟨A1, c1, h1⟩ := this; injection h1 with _ h2 _; exact h2.symm
  subst hn
  exact ⟨A, c, rfl, h, hb⟩
/-- New ints, behind a name. -/
def IntsNew (R : List Int) (w : World) (e : Ending) (w' : World) : Prop :=
  ∃ (A : Option Addr) (c : Nat), e = .returned (.slice A R.length c) ∧ OwnI w' w.heap.size w'.heap.size (.slice A R.length c) R ∧ Below w.heap.size w w'
theorem IntsNew.of {R : List Int} {w w' : World} {A : Option Addr} {n c : Nat} {zs : List Int} (hR : R = zs) (h : OwnI w' w.heap.size w'.heap.size (.slice A n c) zs) (hb : Below w.heap.size w w') :
    IntsNew R w (.returned (.slice A n c)) w' := by
  subst hR
  have hn : R.length = n := by have := own_form h.1; obtain ⟨A1, c1, h1⟩ := this; injection h1 with _ h2 _; exact h2.symm
  subst hn
  exact ⟨A, c, rfl, h, hb⟩
end Go.Proofs.YtmojjbhjjhdpaaaDoor
