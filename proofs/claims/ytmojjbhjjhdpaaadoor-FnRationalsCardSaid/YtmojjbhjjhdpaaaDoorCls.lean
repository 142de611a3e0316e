/- Regions that draw their order and whose calls may make memory but hand back a known value: one walk in the order of the text, over a class of worlds. Of no program. -/
import Derived.Test.YtmojjbhjjhdpaaaDoorBase
import Derived.Deep.QuietTactic
import Derived.BigQuiet
namespace Go.Proofs.YtmojjbhjjhdpaaaDoor
open Go.RowKit

/-- One walk of the text's order serves every order, where each operation yields one value in every world of the class 'Good' and leaves a world of it. The class is handed over as the image of a function that is a letter, so that the walk's facts on cells bear no condition. -/
theorem wp_region_class {P : Program} {id : Nat} {Q : Exit → Act → World → Prop} {a : Act} {w : World} {l : List Oper} (hm : P.follows .mixedOrders = true) (hB : Region.lexB .any l.toArray = true) (Good : World → Prop) (h0 : Good w.drew)
    (h : ∀ (S : Type) [Nonempty S] (f : S → World), (∀ s, Good (f s)) → (∀ W, Good W → ∃ s, W = f s) → wpQuiet P l.toArray (fun w' => ∃ s, w' = f s) (fun a' => ∀ w', (∃ s, w' = f s) → Q .normal a' w') l a) : (Code.region id l.toArray true).wp P Q a w :=
  wp_region_quiet (C := fun w' => ∃ s : {W : World // Good W}, w' = s.1) hm hB ⟨⟨_, h0⟩, rfl⟩ (by simpa using @h {W : World // Good W} ⟨⟨_, h0⟩⟩ (fun s => s.1) (fun s => s.2) (fun W hW => ⟨⟨W, hW⟩, rfl⟩))
theorem Calls.cls {P : Program} {f : FuncId} {args : Array Value} {w : World} {v : Value} {S : Type} {g : S → World} {Good : World → Prop} (hS : ∀ W, Good W → ∃ s, W = g s)
    (h : Calls P f args w fun e w' => e = .returned v ∧ Good w') : Calls P f args w fun e w'' => e = .returned v ∧ ∃ s, w'' = g s := h.mono fun _ _ ⟨he, hg⟩ => ⟨he, hS _ hg⟩
/-- .. for a callee that leaves all that was there. -/
theorem Calls.clsB {P : Program} {f : FuncId} {args : Array Value} {w w0 : World} {v : Value} {S : Type} {g : S → World} (hS : ∀ W, Below w0.heap.size w0 W → ∃ s, W = g s) (hw : Below w0.heap.size w0 w)
    (h : Calls P f args w fun e w' => e = .returned v ∧ Below w.heap.size w w') : Calls P f args w fun e w'' => e = .returned v ∧ ∃ s, w'' = g s := h.mono fun _ _ ⟨he, hg⟩ => ⟨he, hS _ (hw.trans (hg.mono hw.size))⟩
theorem Calls.clsQ {P : Program} {f : FuncId} {args : Array Value} {w w0 : World} {v : Value} {S : Type} {g : S → World} (hS : ∀ W, Below w0.heap.size w0 W → ∃ s, W = g s) (hw : Below w0.heap.size w0 w)
    (h : Calls P f args w fun e w' => e = .returned v ∧ Qt w w') : Calls P f args w fun e w'' => e = .returned v ∧ ∃ s, w'' = g s := Calls.clsB hS hw (h.mono fun _ _ ⟨he, hq⟩ => ⟨he, hq.below _⟩)
theorem Calls.clsE {P : Program} {f : FuncId} {args : Array Value} {w w0 : World} {v : Value} {S : Type} {g : S → World} (hS : ∀ W, Below w0.heap.size w0 W → ∃ s, W = g s) (hw : Below w0.heap.size w0 w)
    (h : Calls P f args w fun e w' => e = .returned v ∧ w = w') : Calls P f args w fun e w'' => e = .returned v ∧ ∃ s, w'' = g s := Calls.clsB hS hw (h.mono fun _ _ ⟨he, hq⟩ => ⟨he, hq ▸ Below.refl _ _⟩)
end Go.Proofs.YtmojjbhjjhdpaaaDoor
