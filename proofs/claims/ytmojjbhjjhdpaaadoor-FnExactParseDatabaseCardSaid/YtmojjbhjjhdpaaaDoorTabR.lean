/- A new table and a bool; helpers for laws over rows. Of no program but for the types' numbers. -/
import Derived.Test.YtmojjbhjjhdpaaaDoorTab
namespace Go.Proofs.YtmojjbhjjhdpaaaDoor
open Go.RowKit Go.Deep

theorem OwnR.setOff {w : World} {lo hi b i : Nat} {v x : Value} {rs : List (List Int)} (h : OwnR w lo hi v rs) (hb : b < lo ∨ hi ≤ b) : OwnR (w.setCell ⟨b, i, none⟩ x) lo hi v rs := by
  obtain ⟨F, h1, h2⟩ := h
  exact ⟨F, h1.chgF eRow_ok (chgF_setCell w b i x) fun k hk e => by have := h2 k hk; omega, h2⟩
/-- A table and a bool. -/
structure TabR where
  nm : ByteArray
  ar : Int
  rs : List (List Int)
  ok : Bool
/-- A new table and a bool, behind a name. -/
def TabBool (R : TabR) (w : World) (e : Ending) (w' : World) : Prop :=
  ∃ (A : Option Addr) (c : Nat), e = .returned (.tuple #[.agg #[.string R.nm, .int .i64 R.ar, .slice A R.rs.length c], .bool R.ok]) ∧ OwnR w' w.heap.size w'.heap.size (.slice A R.rs.length c) R.rs ∧ Below w.heap.size w w'
theorem TabBool.of {R : TabR} {nm : ByteArray} {ar : Int} {rs : List (List Int)} {b : Bool} {w w' : World} {A : Option Addr} {n c : Nat} (hR : R = ⟨nm, ar, rs, b⟩) (h : OwnR w' w.heap.size w'.heap.size (.slice A n c) rs) (hb : Below w.heap.size w w') :
    TabBool R w (.returned (.tuple #[.agg #[.string nm, .int .i64 ar, .slice A n c], .bool b])) w' := by
  subst hR
  have hn := h.len_eq
  subst hn
  exact ⟨A, c, rfl, h, hb⟩
/-- TabBool, its parts apart. -/
def TabAns (nm : ByteArray) (ar : Int) (rs : List (List Int)) (ok : Bool) (w : World) (e : Ending) (w' : World) : Prop :=
  ∃ (A : Option Addr) (c : Nat), e = .returned (.tuple #[.agg #[.string nm, .int .i64 ar, .slice A rs.length c], .bool ok]) ∧ OwnR w' w.heap.size w'.heap.size (.slice A rs.length c) rs ∧ Below w.heap.size w w'
end Go.Proofs.YtmojjbhjjhdpaaaDoor
