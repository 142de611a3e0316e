/-
  No cell of these rows narrows 'for every input' (looked for: loops, veiled, ifaces, maps, wideKeys, modest, calm, conditions, laid).
  DERIVED. THE GIVEN ROWS OF THIS SEAT. 8 by the template 'for every input the law returns true; each argument reads behind the call as it read before'; 0 by the template 'total and deterministic' (their statements: YtekippmdlcbdlaaTotals.lean).
  GIVEN WITH THE SEED: the statements are not yours to turn. If you find one false, say at which input.
  Laid BY PROGRAM, IN A SANDBOX (cutbox-rows.mjs): the forced cells as the released guide's own fill.sh prints them over the translation c58915541c961bc2… (all of the seat's roots in one cut). By AI agents, Wed Nov 11 2026. No macro, syntax, notation, axiom, sorry.
-/
import Derived.Test.YtekippmdlcbdlaaChecked
import GoSem.Claim
import GoSem.ClaimJoined
import GoSem.ClaimMapViews
import Derived.JoinedTies
import Derived.KernelRfl
namespace Go.Proofs.Ytekippmdlcbdlaa
/- THE CELL 'sum', in the pinned program and in every row, IS THE sha256 OF THE DUMP (.gsa) THAT YtekippmdlcbdlaaProg.lean LOADS. Nothing in Lean hashes anything: it is a label: what it is worth is what the hold of that sum in a sandbox is worth. -/
noncomputable def Try.pinned : Pinned := { name := "ytekippmdlcbdlaa", sum := "c58915541c961bc2388b0c2a91cf41127398088e145454729220d0d248ae38de", checked := Try.checked }
namespace Rows
def none {H : Type} : Left H := { results := [], args := [] }

/-- 'laws.FnExactIsValidRational': WHATEVER THE INPUT: true; the input reads as it did. -/
def fnExactIsValidRationalSpec : ChangeSpec := { name := "fnExactIsValidRational", fn := fun _ => fun
  | [d] => { results := [.lit (.bool true)], args := [d] }
  | _ => none }
def fnExactIsValidRationalRow : OpenClaim := { program := "ytekippmdlcbdlaa", sum := "c58915541c961bc2388b0c2a91cf41127398088e145454729220d0d248ae38de", func := "loop.example/g01921/laws.FnExactIsValidRational", spec := "fnExactIsValidRational", apart := false }
def FnExactIsValidRationalSaid : Prop := fnExactIsValidRationalRow.holds Try.pinned (OpenSpec.ofChange fnExactIsValidRationalSpec)

/-- ITS FALSE NEIGHBOUR: 'it returns false'. Refute it at one input. -/
def fnExactIsValidRationalWrong : ChangeSpec := { name := "fnExactIsValidRational", fn := fun _ => fun
  | [d] => { results := [.lit (.bool false)], args := [d] }
  | _ => none }
def FnExactIsValidRationalWrongFalsely : Prop := fnExactIsValidRationalRow.holds Try.pinned (OpenSpec.ofChange fnExactIsValidRationalWrong)

/-- 'laws.FnExactCeilRational': WHATEVER THE INPUT: true; the input reads as it did. -/
def fnExactCeilRationalSpec : ChangeSpec := { name := "fnExactCeilRational", fn := fun _ => fun
  | [d] => { results := [.lit (.bool true)], args := [d] }
  | _ => none }
def fnExactCeilRationalRow : OpenClaim := { program := "ytekippmdlcbdlaa", sum := "c58915541c961bc2388b0c2a91cf41127398088e145454729220d0d248ae38de", func := "loop.example/g01921/laws.FnExactCeilRational", spec := "fnExactCeilRational", apart := false }
def FnExactCeilRationalSaid : Prop := fnExactCeilRationalRow.holds Try.pinned (OpenSpec.ofChange fnExactCeilRationalSpec)

/-- ITS FALSE NEIGHBOUR: 'it returns false'. Refute it at one input. -/
def fnExactCeilRationalWrong : ChangeSpec := { name := "fnExactCeilRational", fn := fun _ => fun
  | [d] => { results := [.lit (.bool false)], args := [d] }
  | _ => none }
def FnExactCeilRationalWrongFalsely : Prop := fnExactCeilRationalRow.holds Try.pinned (OpenSpec.ofChange fnExactCeilRationalWrong)

/-- 'laws.FnExactCompareRationals': WHATEVER THE INPUT: true; the input reads as it did. -/
def fnExactCompareRationalsSpec : ChangeSpec := { name := "fnExactCompareRationals", fn := fun _ => fun
  | [d1, d2] => { results := [.lit (.bool true)], args := [d1, d2] }
  | _ => none }
def fnExactCompareRationalsRow : OpenClaim := { program := "ytekippmdlcbdlaa", sum := "c58915541c961bc2388b0c2a91cf41127398088e145454729220d0d248ae38de", func := "loop.example/g01921/laws.FnExactCompareRationals", spec := "fnExactCompareRationals", apart := false }
def FnExactCompareRationalsSaid : Prop := fnExactCompareRationalsRow.holds Try.pinned (OpenSpec.ofChange fnExactCompareRationalsSpec)

/-- ITS FALSE NEIGHBOUR: 'it returns false'. Refute it at one input. -/
def fnExactCompareRationalsWrong : ChangeSpec := { name := "fnExactCompareRationals", fn := fun _ => fun
  | [d1, d2] => { results := [.lit (.bool false)], args := [d1, d2] }
  | _ => none }
def FnExactCompareRationalsWrongFalsely : Prop := fnExactCompareRationalsRow.holds Try.pinned (OpenSpec.ofChange fnExactCompareRationalsWrong)

/-- 'laws.FnExactMakeRational': WHATEVER THE INPUT: true; the input reads as it did. -/
def fnExactMakeRationalSpec : ChangeSpec := { name := "fnExactMakeRational", fn := fun _ => fun
  | [d1, d2] => { results := [.lit (.bool true)], args := [d1, d2] }
  | _ => none }
def fnExactMakeRationalRow : OpenClaim := { program := "ytekippmdlcbdlaa", sum := "c58915541c961bc2388b0c2a91cf41127398088e145454729220d0d248ae38de", func := "loop.example/g01921/laws.FnExactMakeRational", spec := "fnExactMakeRational", apart := false }
def FnExactMakeRationalSaid : Prop := fnExactMakeRationalRow.holds Try.pinned (OpenSpec.ofChange fnExactMakeRationalSpec)

/-- ITS FALSE NEIGHBOUR: 'it returns false'. Refute it at one input. -/
def fnExactMakeRationalWrong : ChangeSpec := { name := "fnExactMakeRational", fn := fun _ => fun
  | [d1, d2] => { results := [.lit (.bool false)], args := [d1, d2] }
  | _ => none }
def FnExactMakeRationalWrongFalsely : Prop := fnExactMakeRationalRow.holds Try.pinned (OpenSpec.ofChange fnExactMakeRationalWrong)

/-- 'laws.FnExactAddRationals': WHATEVER THE INPUT: true; the input reads as it did. -/
def fnExactAddRationalsSpec : ChangeSpec := { name := "fnExactAddRationals", fn := fun _ => fun
  | [d1, d2] => { results := [.lit (.bool true)], args := [d1, d2] }
  | _ => none }
def fnExactAddRationalsRow : OpenClaim := { program := "ytekippmdlcbdlaa", sum := "c58915541c961bc2388b0c2a91cf41127398088e145454729220d0d248ae38de", func := "loop.example/g01921/laws.FnExactAddRationals", spec := "fnExactAddRationals", apart := false }
def FnExactAddRationalsSaid : Prop := fnExactAddRationalsRow.holds Try.pinned (OpenSpec.ofChange fnExactAddRationalsSpec)

/-- ITS FALSE NEIGHBOUR: 'it returns false'. Refute it at one input. -/
def fnExactAddRationalsWrong : ChangeSpec := { name := "fnExactAddRationals", fn := fun _ => fun
  | [d1, d2] => { results := [.lit (.bool false)], args := [d1, d2] }
  | _ => none }
def FnExactAddRationalsWrongFalsely : Prop := fnExactAddRationalsRow.holds Try.pinned (OpenSpec.ofChange fnExactAddRationalsWrong)

/-- 'laws.FnExactDivideRationals': WHATEVER THE INPUT: true; the input reads as it did. -/
def fnExactDivideRationalsSpec : ChangeSpec := { name := "fnExactDivideRationals", fn := fun _ => fun
  | [d1, d2] => { results := [.lit (.bool true)], args := [d1, d2] }
  | _ => none }
def fnExactDivideRationalsRow : OpenClaim := { program := "ytekippmdlcbdlaa", sum := "c58915541c961bc2388b0c2a91cf41127398088e145454729220d0d248ae38de", func := "loop.example/g01921/laws.FnExactDivideRationals", spec := "fnExactDivideRationals", apart := false }
def FnExactDivideRationalsSaid : Prop := fnExactDivideRationalsRow.holds Try.pinned (OpenSpec.ofChange fnExactDivideRationalsSpec)

/-- ITS FALSE NEIGHBOUR: 'it returns false'. Refute it at one input. -/
def fnExactDivideRationalsWrong : ChangeSpec := { name := "fnExactDivideRationals", fn := fun _ => fun
  | [d1, d2] => { results := [.lit (.bool false)], args := [d1, d2] }
  | _ => none }
def FnExactDivideRationalsWrongFalsely : Prop := fnExactDivideRationalsRow.holds Try.pinned (OpenSpec.ofChange fnExactDivideRationalsWrong)

/-- 'laws.FnExactMultiplyRationals': WHATEVER THE INPUT: true; the input reads as it did. -/
def fnExactMultiplyRationalsSpec : ChangeSpec := { name := "fnExactMultiplyRationals", fn := fun _ => fun
  | [d1, d2] => { results := [.lit (.bool true)], args := [d1, d2] }
  | _ => none }
def fnExactMultiplyRationalsRow : OpenClaim := { program := "ytekippmdlcbdlaa", sum := "c58915541c961bc2388b0c2a91cf41127398088e145454729220d0d248ae38de", func := "loop.example/g01921/laws.FnExactMultiplyRationals", spec := "fnExactMultiplyRationals", apart := false }
def FnExactMultiplyRationalsSaid : Prop := fnExactMultiplyRationalsRow.holds Try.pinned (OpenSpec.ofChange fnExactMultiplyRationalsSpec)

/-- ITS FALSE NEIGHBOUR: 'it returns false'. Refute it at one input. -/
def fnExactMultiplyRationalsWrong : ChangeSpec := { name := "fnExactMultiplyRationals", fn := fun _ => fun
  | [d1, d2] => { results := [.lit (.bool false)], args := [d1, d2] }
  | _ => none }
def FnExactMultiplyRationalsWrongFalsely : Prop := fnExactMultiplyRationalsRow.holds Try.pinned (OpenSpec.ofChange fnExactMultiplyRationalsWrong)

/-- 'laws.FnExactSubtractRationals': WHATEVER THE INPUT: true; the input reads as it did. -/
def fnExactSubtractRationalsSpec : ChangeSpec := { name := "fnExactSubtractRationals", fn := fun _ => fun
  | [d1, d2] => { results := [.lit (.bool true)], args := [d1, d2] }
  | _ => none }
def fnExactSubtractRationalsRow : OpenClaim := { program := "ytekippmdlcbdlaa", sum := "c58915541c961bc2388b0c2a91cf41127398088e145454729220d0d248ae38de", func := "loop.example/g01921/laws.FnExactSubtractRationals", spec := "fnExactSubtractRationals", apart := false }
def FnExactSubtractRationalsSaid : Prop := fnExactSubtractRationalsRow.holds Try.pinned (OpenSpec.ofChange fnExactSubtractRationalsSpec)

/-- ITS FALSE NEIGHBOUR: 'it returns false'. Refute it at one input. -/
def fnExactSubtractRationalsWrong : ChangeSpec := { name := "fnExactSubtractRationals", fn := fun _ => fun
  | [d1, d2] => { results := [.lit (.bool false)], args := [d1, d2] }
  | _ => none }
def FnExactSubtractRationalsWrongFalsely : Prop := fnExactSubtractRationalsRow.holds Try.pinned (OpenSpec.ofChange fnExactSubtractRationalsWrong)

/- THE SECOND FORM. 'bulk': how many values and letters a reading holds, each counted each time it is reached (what is shared counts as often as it is met; a slice's spare places count too). A statement '..UptoSaid' is the law's where the arguments, and the package variables that the reading takes, are together of bulk at most 1048576: NARROWER than '..Said'. Prove '..Said' where nothing that the law and all that it calls make is longer than what came in: it says more and counts as full. Else prove '..UptoSaid'. A law counts once. -/
mutual
def uptoBulk {H : Type} : DataW H → Nat
  | .lit (.string bytes) => bytes.length + 1
  | .lit _ => 1
  | .nil => 1
  | .ptr d => uptoBulk d + 1
  | .slice elems spare => uptoBulkAll elems + uptoBulkAll spare + 1
  | .agg parts => uptoBulkAll parts + 1
  | .iface _ d => uptoBulk d + 1
  | .map entries => uptoBulkEntries entries + 1
  | .held _ => 1
def uptoBulkAll {H : Type} : List (DataW H) → Nat
  | [] => 0
  | d :: r => uptoBulk d + uptoBulkAll r
def uptoBulkEntries {H : Type} : List (Lit × DataW H) → Nat
  | [] => 0
  | x :: r => uptoBulkEntry x + uptoBulkEntries r
def uptoBulkEntry {H : Type} : Lit × DataW H → Nat
  | (.string bytes, d) => bytes.length + uptoBulk d + 1
  | (_, d) => uptoBulk d + 1
 end
def uptoSmall : (H : Type) → List (DataW H) → Bool := fun _ ds => decide (uptoBulkAll ds ≤ 1048576)
def OpenSpec.upto (s : _root_.Go.ChangeSpec) : _root_.Go.OpenSpec := { _root_.Go.OpenSpec.ofChange s with cond := some uptoSmall }

/-- 'laws.FnExactIsValidRational', WHERE WHAT IT READS IS OF BULK AT MOST 1048576: true; the input reads as it did. -/
def fnExactIsValidRationalUptoRow : OpenClaim := { program := "ytekippmdlcbdlaa", sum := "c58915541c961bc2388b0c2a91cf41127398088e145454729220d0d248ae38de", func := "loop.example/g01921/laws.FnExactIsValidRational", spec := "fnExactIsValidRational", apart := false, narrowed := true }
def FnExactIsValidRationalUptoSaid : Prop := fnExactIsValidRationalUptoRow.holds Try.pinned (OpenSpec.upto fnExactIsValidRationalSpec)

/-- 'laws.FnExactCeilRational', WHERE WHAT IT READS IS OF BULK AT MOST 1048576: true; the input reads as it did. -/
def fnExactCeilRationalUptoRow : OpenClaim := { program := "ytekippmdlcbdlaa", sum := "c58915541c961bc2388b0c2a91cf41127398088e145454729220d0d248ae38de", func := "loop.example/g01921/laws.FnExactCeilRational", spec := "fnExactCeilRational", apart := false, narrowed := true }
def FnExactCeilRationalUptoSaid : Prop := fnExactCeilRationalUptoRow.holds Try.pinned (OpenSpec.upto fnExactCeilRationalSpec)

/-- 'laws.FnExactCompareRationals', WHERE WHAT IT READS IS OF BULK AT MOST 1048576: true; the input reads as it did. -/
def fnExactCompareRationalsUptoRow : OpenClaim := { program := "ytekippmdlcbdlaa", sum := "c58915541c961bc2388b0c2a91cf41127398088e145454729220d0d248ae38de", func := "loop.example/g01921/laws.FnExactCompareRationals", spec := "fnExactCompareRationals", apart := false, narrowed := true }
def FnExactCompareRationalsUptoSaid : Prop := fnExactCompareRationalsUptoRow.holds Try.pinned (OpenSpec.upto fnExactCompareRationalsSpec)

/-- 'laws.FnExactMakeRational', WHERE WHAT IT READS IS OF BULK AT MOST 1048576: true; the input reads as it did. -/
def fnExactMakeRationalUptoRow : OpenClaim := { program := "ytekippmdlcbdlaa", sum := "c58915541c961bc2388b0c2a91cf41127398088e145454729220d0d248ae38de", func := "loop.example/g01921/laws.FnExactMakeRational", spec := "fnExactMakeRational", apart := false, narrowed := true }
def FnExactMakeRationalUptoSaid : Prop := fnExactMakeRationalUptoRow.holds Try.pinned (OpenSpec.upto fnExactMakeRationalSpec)

/-- 'laws.FnExactAddRationals', WHERE WHAT IT READS IS OF BULK AT MOST 1048576: true; the input reads as it did. -/
def fnExactAddRationalsUptoRow : OpenClaim := { program := "ytekippmdlcbdlaa", sum := "c58915541c961bc2388b0c2a91cf41127398088e145454729220d0d248ae38de", func := "loop.example/g01921/laws.FnExactAddRationals", spec := "fnExactAddRationals", apart := false, narrowed := true }
def FnExactAddRationalsUptoSaid : Prop := fnExactAddRationalsUptoRow.holds Try.pinned (OpenSpec.upto fnExactAddRationalsSpec)

/-- 'laws.FnExactDivideRationals', WHERE WHAT IT READS IS OF BULK AT MOST 1048576: true; the input reads as it did. -/
def fnExactDivideRationalsUptoRow : OpenClaim := { program := "ytekippmdlcbdlaa", sum := "c58915541c961bc2388b0c2a91cf41127398088e145454729220d0d248ae38de", func := "loop.example/g01921/laws.FnExactDivideRationals", spec := "fnExactDivideRationals", apart := false, narrowed := true }
def FnExactDivideRationalsUptoSaid : Prop := fnExactDivideRationalsUptoRow.holds Try.pinned (OpenSpec.upto fnExactDivideRationalsSpec)

/-- 'laws.FnExactMultiplyRationals', WHERE WHAT IT READS IS OF BULK AT MOST 1048576: true; the input reads as it did. -/
def fnExactMultiplyRationalsUptoRow : OpenClaim := { program := "ytekippmdlcbdlaa", sum := "c58915541c961bc2388b0c2a91cf41127398088e145454729220d0d248ae38de", func := "loop.example/g01921/laws.FnExactMultiplyRationals", spec := "fnExactMultiplyRationals", apart := false, narrowed := true }
def FnExactMultiplyRationalsUptoSaid : Prop := fnExactMultiplyRationalsUptoRow.holds Try.pinned (OpenSpec.upto fnExactMultiplyRationalsSpec)

/-- 'laws.FnExactSubtractRationals', WHERE WHAT IT READS IS OF BULK AT MOST 1048576: true; the input reads as it did. -/
def fnExactSubtractRationalsUptoRow : OpenClaim := { program := "ytekippmdlcbdlaa", sum := "c58915541c961bc2388b0c2a91cf41127398088e145454729220d0d248ae38de", func := "loop.example/g01921/laws.FnExactSubtractRationals", spec := "fnExactSubtractRationals", apart := false, narrowed := true }
def FnExactSubtractRationalsUptoSaid : Prop := fnExactSubtractRationalsUptoRow.holds Try.pinned (OpenSpec.upto fnExactSubtractRationalsSpec)

end Rows
end Go.Proofs.Ytekippmdlcbdlaa
