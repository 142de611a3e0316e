/-
  No cell of these rows narrows 'for every input' (looked for: loops, veiled, ifaces, maps, wideKeys, modest, calm, conditions, laid).
  DERIVED. THE GIVEN ROWS OF THIS SEAT. 12 by the template 'for every input the law returns true; each argument reads behind the call as it read before'; 0 by the template 'total and deterministic' (their statements: YtimlecfneibjlaaTotals.lean).
  GIVEN WITH THE SEED: the statements are not yours to turn. If you find one false, say at which input.
  Laid BY PROGRAM, IN A SANDBOX (cutbox-rows.mjs): the forced cells as the released guide's own fill.sh prints them over the translation 7de3512db4cd2491… (all of the seat's roots in one cut). By AI agents, Wed Nov 11 2026. No macro, syntax, notation, axiom, sorry.
-/
import Derived.Test.YtimlecfneibjlaaChecked
import GoSem.Claim
import GoSem.ClaimJoined
import GoSem.ClaimMapViews
import Derived.JoinedTies
import Derived.KernelRfl
namespace Go.Proofs.Ytimlecfneibjlaa
/- THE CELL 'sum', in the pinned program and in every row, IS THE sha256 OF THE DUMP (.gsa) THAT YtimlecfneibjlaaProg.lean LOADS. Nothing in Lean hashes anything: it is a label: what it is worth is what the hold of that sum in a sandbox is worth. -/
noncomputable def Try.pinned : Pinned := { name := "ytimlecfneibjlaa", sum := "7de3512db4cd24913cd4bc17fd5eeef8b3af112b72be37bca3852f2f36722459", checked := Try.checked }
namespace Rows
def none {H : Type} : Left H := { results := [], args := [] }

/-- 'laws.FnExactIsValidDatabase': WHATEVER THE INPUT: true; the input reads as it did. -/
def fnExactIsValidDatabaseSpec : ChangeSpec := { name := "fnExactIsValidDatabase", fn := fun _ => fun
  | [d] => { results := [.lit (.bool true)], args := [d] }
  | _ => none }
def fnExactIsValidDatabaseRow : OpenClaim := { program := "ytimlecfneibjlaa", sum := "7de3512db4cd24913cd4bc17fd5eeef8b3af112b72be37bca3852f2f36722459", func := "loop.example/g01921/laws.FnExactIsValidDatabase", spec := "fnExactIsValidDatabase", apart := false }
def FnExactIsValidDatabaseSaid : Prop := fnExactIsValidDatabaseRow.holds Try.pinned (OpenSpec.ofChange fnExactIsValidDatabaseSpec)

/-- ITS FALSE NEIGHBOUR: 'it returns false'. Refute it at one input. -/
def fnExactIsValidDatabaseWrong : ChangeSpec := { name := "fnExactIsValidDatabase", fn := fun _ => fun
  | [d] => { results := [.lit (.bool false)], args := [d] }
  | _ => none }
def FnExactIsValidDatabaseWrongFalsely : Prop := fnExactIsValidDatabaseRow.holds Try.pinned (OpenSpec.ofChange fnExactIsValidDatabaseWrong)

/-- 'laws.FnExactCountRows': WHATEVER THE INPUT: true; the input reads as it did. -/
def fnExactCountRowsSpec : ChangeSpec := { name := "fnExactCountRows", fn := fun _ => fun
  | [d] => { results := [.lit (.bool true)], args := [d] }
  | _ => none }
def fnExactCountRowsRow : OpenClaim := { program := "ytimlecfneibjlaa", sum := "7de3512db4cd24913cd4bc17fd5eeef8b3af112b72be37bca3852f2f36722459", func := "loop.example/g01921/laws.FnExactCountRows", spec := "fnExactCountRows", apart := false }
def FnExactCountRowsSaid : Prop := fnExactCountRowsRow.holds Try.pinned (OpenSpec.ofChange fnExactCountRowsSpec)

/-- ITS FALSE NEIGHBOUR: 'it returns false'. Refute it at one input. -/
def fnExactCountRowsWrong : ChangeSpec := { name := "fnExactCountRows", fn := fun _ => fun
  | [d] => { results := [.lit (.bool false)], args := [d] }
  | _ => none }
def FnExactCountRowsWrongFalsely : Prop := fnExactCountRowsRow.holds Try.pinned (OpenSpec.ofChange fnExactCountRowsWrong)

/-- 'laws.FnExactLookupTable': WHATEVER THE INPUT: true; the input reads as it did. -/
def fnExactLookupTableSpec : ChangeSpec := { name := "fnExactLookupTable", fn := fun _ => fun
  | [d1, d2] => { results := [.lit (.bool true)], args := [d1, d2] }
  | _ => none }
def fnExactLookupTableRow : OpenClaim := { program := "ytimlecfneibjlaa", sum := "7de3512db4cd24913cd4bc17fd5eeef8b3af112b72be37bca3852f2f36722459", func := "loop.example/g01921/laws.FnExactLookupTable", spec := "fnExactLookupTable", unfollowed := true, recurses := true, apart := false }
def FnExactLookupTableSaid : Prop := fnExactLookupTableRow.holds Try.pinned (OpenSpec.ofChange fnExactLookupTableSpec)

/-- ITS FALSE NEIGHBOUR: 'it returns false'. Refute it at one input. -/
def fnExactLookupTableWrong : ChangeSpec := { name := "fnExactLookupTable", fn := fun _ => fun
  | [d1, d2] => { results := [.lit (.bool false)], args := [d1, d2] }
  | _ => none }
def FnExactLookupTableWrongFalsely : Prop := fnExactLookupTableRow.holds Try.pinned (OpenSpec.ofChange fnExactLookupTableWrong)

/-- 'laws.FnExactSetTable': WHATEVER THE INPUT: true; the input reads as it did. -/
def fnExactSetTableSpec : ChangeSpec := { name := "fnExactSetTable", fn := fun _ => fun
  | [d1, d2] => { results := [.lit (.bool true)], args := [d1, d2] }
  | _ => none }
def fnExactSetTableRow : OpenClaim := { program := "ytimlecfneibjlaa", sum := "7de3512db4cd24913cd4bc17fd5eeef8b3af112b72be37bca3852f2f36722459", func := "loop.example/g01921/laws.FnExactSetTable", spec := "fnExactSetTable", apart := false }
def FnExactSetTableSaid : Prop := fnExactSetTableRow.holds Try.pinned (OpenSpec.ofChange fnExactSetTableSpec)

/-- ITS FALSE NEIGHBOUR: 'it returns false'. Refute it at one input. -/
def fnExactSetTableWrong : ChangeSpec := { name := "fnExactSetTable", fn := fun _ => fun
  | [d1, d2] => { results := [.lit (.bool false)], args := [d1, d2] }
  | _ => none }
def FnExactSetTableWrongFalsely : Prop := fnExactSetTableRow.holds Try.pinned (OpenSpec.ofChange fnExactSetTableWrong)

/-- 'laws.FnExactRemoveTable': WHATEVER THE INPUT: true; the input reads as it did. -/
def fnExactRemoveTableSpec : ChangeSpec := { name := "fnExactRemoveTable", fn := fun _ => fun
  | [d1, d2] => { results := [.lit (.bool true)], args := [d1, d2] }
  | _ => none }
def fnExactRemoveTableRow : OpenClaim := { program := "ytimlecfneibjlaa", sum := "7de3512db4cd24913cd4bc17fd5eeef8b3af112b72be37bca3852f2f36722459", func := "loop.example/g01921/laws.FnExactRemoveTable", spec := "fnExactRemoveTable", unfollowed := true, recurses := true, apart := false }
def FnExactRemoveTableSaid : Prop := fnExactRemoveTableRow.holds Try.pinned (OpenSpec.ofChange fnExactRemoveTableSpec)

/-- ITS FALSE NEIGHBOUR: 'it returns false'. Refute it at one input. -/
def fnExactRemoveTableWrong : ChangeSpec := { name := "fnExactRemoveTable", fn := fun _ => fun
  | [d1, d2] => { results := [.lit (.bool false)], args := [d1, d2] }
  | _ => none }
def FnExactRemoveTableWrongFalsely : Prop := fnExactRemoveTableRow.holds Try.pinned (OpenSpec.ofChange fnExactRemoveTableWrong)

/-- 'laws.FnExactApplyUpdates': WHATEVER THE INPUT: true; the input reads as it did. -/
def fnExactApplyUpdatesSpec : ChangeSpec := { name := "fnExactApplyUpdates", fn := fun _ => fun
  | [d1, d2] => { results := [.lit (.bool true)], args := [d1, d2] }
  | _ => none }
def fnExactApplyUpdatesRow : OpenClaim := { program := "ytimlecfneibjlaa", sum := "7de3512db4cd24913cd4bc17fd5eeef8b3af112b72be37bca3852f2f36722459", func := "loop.example/g01921/laws.FnExactApplyUpdates", spec := "fnExactApplyUpdates", unfollowed := true, recurses := true, apart := false }
def FnExactApplyUpdatesSaid : Prop := fnExactApplyUpdatesRow.holds Try.pinned (OpenSpec.ofChange fnExactApplyUpdatesSpec)

/-- ITS FALSE NEIGHBOUR: 'it returns false'. Refute it at one input. -/
def fnExactApplyUpdatesWrong : ChangeSpec := { name := "fnExactApplyUpdates", fn := fun _ => fun
  | [d1, d2] => { results := [.lit (.bool false)], args := [d1, d2] }
  | _ => none }
def FnExactApplyUpdatesWrongFalsely : Prop := fnExactApplyUpdatesRow.holds Try.pinned (OpenSpec.ofChange fnExactApplyUpdatesWrong)

/-- 'laws.FnExactEqualUpdates': WHATEVER THE INPUT: true; the input reads as it did. -/
def fnExactEqualUpdatesSpec : ChangeSpec := { name := "fnExactEqualUpdates", fn := fun _ => fun
  | [d1, d2] => { results := [.lit (.bool true)], args := [d1, d2] }
  | _ => none }
def fnExactEqualUpdatesRow : OpenClaim := { program := "ytimlecfneibjlaa", sum := "7de3512db4cd24913cd4bc17fd5eeef8b3af112b72be37bca3852f2f36722459", func := "loop.example/g01921/laws.FnExactEqualUpdates", spec := "fnExactEqualUpdates", apart := false }
def FnExactEqualUpdatesSaid : Prop := fnExactEqualUpdatesRow.holds Try.pinned (OpenSpec.ofChange fnExactEqualUpdatesSpec)

/-- ITS FALSE NEIGHBOUR: 'it returns false'. Refute it at one input. -/
def fnExactEqualUpdatesWrong : ChangeSpec := { name := "fnExactEqualUpdates", fn := fun _ => fun
  | [d1, d2] => { results := [.lit (.bool false)], args := [d1, d2] }
  | _ => none }
def FnExactEqualUpdatesWrongFalsely : Prop := fnExactEqualUpdatesRow.holds Try.pinned (OpenSpec.ofChange fnExactEqualUpdatesWrong)

/-- 'laws.FnExactInvertUpdate': WHATEVER THE INPUT: true; the input reads as it did. -/
def fnExactInvertUpdateSpec : ChangeSpec := { name := "fnExactInvertUpdate", fn := fun _ => fun
  | [d] => { results := [.lit (.bool true)], args := [d] }
  | _ => none }
def fnExactInvertUpdateRow : OpenClaim := { program := "ytimlecfneibjlaa", sum := "7de3512db4cd24913cd4bc17fd5eeef8b3af112b72be37bca3852f2f36722459", func := "loop.example/g01921/laws.FnExactInvertUpdate", spec := "fnExactInvertUpdate", apart := false }
def FnExactInvertUpdateSaid : Prop := fnExactInvertUpdateRow.holds Try.pinned (OpenSpec.ofChange fnExactInvertUpdateSpec)

/-- ITS FALSE NEIGHBOUR: 'it returns false'. Refute it at one input. -/
def fnExactInvertUpdateWrong : ChangeSpec := { name := "fnExactInvertUpdate", fn := fun _ => fun
  | [d] => { results := [.lit (.bool false)], args := [d] }
  | _ => none }
def FnExactInvertUpdateWrongFalsely : Prop := fnExactInvertUpdateRow.holds Try.pinned (OpenSpec.ofChange fnExactInvertUpdateWrong)

/-- 'laws.FnExactFormatUpdate': WHATEVER THE INPUT: true; the input reads as it did. -/
def fnExactFormatUpdateSpec : ChangeSpec := { name := "fnExactFormatUpdate", fn := fun _ => fun
  | [d] => { results := [.lit (.bool true)], args := [d] }
  | _ => none }
def fnExactFormatUpdateRow : OpenClaim := { program := "ytimlecfneibjlaa", sum := "7de3512db4cd24913cd4bc17fd5eeef8b3af112b72be37bca3852f2f36722459", func := "loop.example/g01921/laws.FnExactFormatUpdate", spec := "fnExactFormatUpdate", apart := false }
def FnExactFormatUpdateSaid : Prop := fnExactFormatUpdateRow.holds Try.pinned (OpenSpec.ofChange fnExactFormatUpdateSpec)

/-- ITS FALSE NEIGHBOUR: 'it returns false'. Refute it at one input. -/
def fnExactFormatUpdateWrong : ChangeSpec := { name := "fnExactFormatUpdate", fn := fun _ => fun
  | [d] => { results := [.lit (.bool false)], args := [d] }
  | _ => none }
def FnExactFormatUpdateWrongFalsely : Prop := fnExactFormatUpdateRow.holds Try.pinned (OpenSpec.ofChange fnExactFormatUpdateWrong)

/-- 'laws.FnExactParseUpdate': WHATEVER THE INPUT: true; the input reads as it did. -/
def fnExactParseUpdateSpec : ChangeSpec := { name := "fnExactParseUpdate", fn := fun _ => fun
  | [d] => { results := [.lit (.bool true)], args := [d] }
  | _ => none }
def fnExactParseUpdateRow : OpenClaim := { program := "ytimlecfneibjlaa", sum := "7de3512db4cd24913cd4bc17fd5eeef8b3af112b72be37bca3852f2f36722459", func := "loop.example/g01921/laws.FnExactParseUpdate", spec := "fnExactParseUpdate", apart := false }
def FnExactParseUpdateSaid : Prop := fnExactParseUpdateRow.holds Try.pinned (OpenSpec.ofChange fnExactParseUpdateSpec)

/-- ITS FALSE NEIGHBOUR: 'it returns false'. Refute it at one input. -/
def fnExactParseUpdateWrong : ChangeSpec := { name := "fnExactParseUpdate", fn := fun _ => fun
  | [d] => { results := [.lit (.bool false)], args := [d] }
  | _ => none }
def FnExactParseUpdateWrongFalsely : Prop := fnExactParseUpdateRow.holds Try.pinned (OpenSpec.ofChange fnExactParseUpdateWrong)

/-- 'laws.FnExactIsValidUpdate': WHATEVER THE INPUT: true; the input reads as it did. -/
def fnExactIsValidUpdateSpec : ChangeSpec := { name := "fnExactIsValidUpdate", fn := fun _ => fun
  | [d1, d2] => { results := [.lit (.bool true)], args := [d1, d2] }
  | _ => none }
def fnExactIsValidUpdateRow : OpenClaim := { program := "ytimlecfneibjlaa", sum := "7de3512db4cd24913cd4bc17fd5eeef8b3af112b72be37bca3852f2f36722459", func := "loop.example/g01921/laws.FnExactIsValidUpdate", spec := "fnExactIsValidUpdate", unfollowed := true, recurses := true, apart := false }
def FnExactIsValidUpdateSaid : Prop := fnExactIsValidUpdateRow.holds Try.pinned (OpenSpec.ofChange fnExactIsValidUpdateSpec)

/-- ITS FALSE NEIGHBOUR: 'it returns false'. Refute it at one input. -/
def fnExactIsValidUpdateWrong : ChangeSpec := { name := "fnExactIsValidUpdate", fn := fun _ => fun
  | [d1, d2] => { results := [.lit (.bool false)], args := [d1, d2] }
  | _ => none }
def FnExactIsValidUpdateWrongFalsely : Prop := fnExactIsValidUpdateRow.holds Try.pinned (OpenSpec.ofChange fnExactIsValidUpdateWrong)

/-- 'laws.FnExactApplyUpdate': WHATEVER THE INPUT: true; the input reads as it did. -/
def fnExactApplyUpdateSpec : ChangeSpec := { name := "fnExactApplyUpdate", fn := fun _ => fun
  | [d1, d2] => { results := [.lit (.bool true)], args := [d1, d2] }
  | _ => none }
def fnExactApplyUpdateRow : OpenClaim := { program := "ytimlecfneibjlaa", sum := "7de3512db4cd24913cd4bc17fd5eeef8b3af112b72be37bca3852f2f36722459", func := "loop.example/g01921/laws.FnExactApplyUpdate", spec := "fnExactApplyUpdate", unfollowed := true, recurses := true, apart := false }
def FnExactApplyUpdateSaid : Prop := fnExactApplyUpdateRow.holds Try.pinned (OpenSpec.ofChange fnExactApplyUpdateSpec)

/-- ITS FALSE NEIGHBOUR: 'it returns false'. Refute it at one input. -/
def fnExactApplyUpdateWrong : ChangeSpec := { name := "fnExactApplyUpdate", fn := fun _ => fun
  | [d1, d2] => { results := [.lit (.bool false)], args := [d1, d2] }
  | _ => none }
def FnExactApplyUpdateWrongFalsely : Prop := fnExactApplyUpdateRow.holds Try.pinned (OpenSpec.ofChange fnExactApplyUpdateWrong)

/- THE SECOND FORM. 'bulk': how many values and letters a reading holds, each counted each time it is reached (what is shared counts as often as it is met; a slice's spare places count too). A statement '..UptoSaid' is the law's where the arguments, and the package variables that the reading takes, are together of bulk at most 1048576: NARROWER than '..Said'. Prove '..Said' where nothing that the law and all that it calls make is longer than what came in: it says more and counts as full. Else prove '..UptoSaid'. A law counts once. -/
mutual
def uptoBulk {H : Type} : DataW H → Nat
  | .lit (.string bytes) => bytes.length + 1
  | .lit _ => 1
  | .nil => 1
  | .ptr d => uptoBulk d + 1
  | .slice elems spare => uptoBulkAll elems + uptoBulkAll spare + 1
  | .agg parts => uptoBulkAll parts + 1
  | .iface _ d => uptoBulk d + 1
  | .map entries => uptoBulkEntries entries + 1
  | .held _ => 1
def uptoBulkAll {H : Type} : List (DataW H) → Nat
  | [] => 0
  | d :: r => uptoBulk d + uptoBulkAll r
def uptoBulkEntries {H : Type} : List (Lit × DataW H) → Nat
  | [] => 0
  | x :: r => uptoBulkEntry x + uptoBulkEntries r
def uptoBulkEntry {H : Type} : Lit × DataW H → Nat
  | (.string bytes, d) => bytes.length + uptoBulk d + 1
  | (_, d) => uptoBulk d + 1
 end
def uptoSmall : (H : Type) → List (DataW H) → Bool := fun _ ds => decide (uptoBulkAll ds ≤ 1048576)
def OpenSpec.upto (s : _root_.Go.ChangeSpec) : _root_.Go.OpenSpec := { _root_.Go.OpenSpec.ofChange s with cond := some uptoSmall }

/-- 'laws.FnExactIsValidDatabase', WHERE WHAT IT READS IS OF BULK AT MOST 1048576: true; the input reads as it did. -/
def fnExactIsValidDatabaseUptoRow : OpenClaim := { program := "ytimlecfneibjlaa", sum := "7de3512db4cd24913cd4bc17fd5eeef8b3af112b72be37bca3852f2f36722459", func := "loop.example/g01921/laws.FnExactIsValidDatabase", spec := "fnExactIsValidDatabase", apart := false, narrowed := true }
def FnExactIsValidDatabaseUptoSaid : Prop := fnExactIsValidDatabaseUptoRow.holds Try.pinned (OpenSpec.upto fnExactIsValidDatabaseSpec)

/-- 'laws.FnExactCountRows', WHERE WHAT IT READS IS OF BULK AT MOST 1048576: true; the input reads as it did. -/
def fnExactCountRowsUptoRow : OpenClaim := { program := "ytimlecfneibjlaa", sum := "7de3512db4cd24913cd4bc17fd5eeef8b3af112b72be37bca3852f2f36722459", func := "loop.example/g01921/laws.FnExactCountRows", spec := "fnExactCountRows", apart := false, narrowed := true }
def FnExactCountRowsUptoSaid : Prop := fnExactCountRowsUptoRow.holds Try.pinned (OpenSpec.upto fnExactCountRowsSpec)

/-- 'laws.FnExactLookupTable', WHERE WHAT IT READS IS OF BULK AT MOST 1048576: true; the input reads as it did. -/
def fnExactLookupTableUptoRow : OpenClaim := { program := "ytimlecfneibjlaa", sum := "7de3512db4cd24913cd4bc17fd5eeef8b3af112b72be37bca3852f2f36722459", func := "loop.example/g01921/laws.FnExactLookupTable", spec := "fnExactLookupTable", unfollowed := true, recurses := true, apart := false, narrowed := true }
def FnExactLookupTableUptoSaid : Prop := fnExactLookupTableUptoRow.holds Try.pinned (OpenSpec.upto fnExactLookupTableSpec)

/-- 'laws.FnExactSetTable', WHERE WHAT IT READS IS OF BULK AT MOST 1048576: true; the input reads as it did. -/
def fnExactSetTableUptoRow : OpenClaim := { program := "ytimlecfneibjlaa", sum := "7de3512db4cd24913cd4bc17fd5eeef8b3af112b72be37bca3852f2f36722459", func := "loop.example/g01921/laws.FnExactSetTable", spec := "fnExactSetTable", apart := false, narrowed := true }
def FnExactSetTableUptoSaid : Prop := fnExactSetTableUptoRow.holds Try.pinned (OpenSpec.upto fnExactSetTableSpec)

/-- 'laws.FnExactRemoveTable', WHERE WHAT IT READS IS OF BULK AT MOST 1048576: true; the input reads as it did. -/
def fnExactRemoveTableUptoRow : OpenClaim := { program := "ytimlecfneibjlaa", sum := "7de3512db4cd24913cd4bc17fd5eeef8b3af112b72be37bca3852f2f36722459", func := "loop.example/g01921/laws.FnExactRemoveTable", spec := "fnExactRemoveTable", unfollowed := true, recurses := true, apart := false, narrowed := true }
def FnExactRemoveTableUptoSaid : Prop := fnExactRemoveTableUptoRow.holds Try.pinned (OpenSpec.upto fnExactRemoveTableSpec)

/-- 'laws.FnExactApplyUpdates', WHERE WHAT IT READS IS OF BULK AT MOST 1048576: true; the input reads as it did. -/
def fnExactApplyUpdatesUptoRow : OpenClaim := { program := "ytimlecfneibjlaa", sum := "7de3512db4cd24913cd4bc17fd5eeef8b3af112b72be37bca3852f2f36722459", func := "loop.example/g01921/laws.FnExactApplyUpdates", spec := "fnExactApplyUpdates", unfollowed := true, recurses := true, apart := false, narrowed := true }
def FnExactApplyUpdatesUptoSaid : Prop := fnExactApplyUpdatesUptoRow.holds Try.pinned (OpenSpec.upto fnExactApplyUpdatesSpec)

/-- 'laws.FnExactEqualUpdates', WHERE WHAT IT READS IS OF BULK AT MOST 1048576: true; the input reads as it did. -/
def fnExactEqualUpdatesUptoRow : OpenClaim := { program := "ytimlecfneibjlaa", sum := "7de3512db4cd24913cd4bc17fd5eeef8b3af112b72be37bca3852f2f36722459", func := "loop.example/g01921/laws.FnExactEqualUpdates", spec := "fnExactEqualUpdates", apart := false, narrowed := true }
def FnExactEqualUpdatesUptoSaid : Prop := fnExactEqualUpdatesUptoRow.holds Try.pinned (OpenSpec.upto fnExactEqualUpdatesSpec)

/-- 'laws.FnExactInvertUpdate', WHERE WHAT IT READS IS OF BULK AT MOST 1048576: true; the input reads as it did. -/
def fnExactInvertUpdateUptoRow : OpenClaim := { program := "ytimlecfneibjlaa", sum := "7de3512db4cd24913cd4bc17fd5eeef8b3af112b72be37bca3852f2f36722459", func := "loop.example/g01921/laws.FnExactInvertUpdate", spec := "fnExactInvertUpdate", apart := false, narrowed := true }
def FnExactInvertUpdateUptoSaid : Prop := fnExactInvertUpdateUptoRow.holds Try.pinned (OpenSpec.upto fnExactInvertUpdateSpec)

/-- 'laws.FnExactFormatUpdate', WHERE WHAT IT READS IS OF BULK AT MOST 1048576: true; the input reads as it did. -/
def fnExactFormatUpdateUptoRow : OpenClaim := { program := "ytimlecfneibjlaa", sum := "7de3512db4cd24913cd4bc17fd5eeef8b3af112b72be37bca3852f2f36722459", func := "loop.example/g01921/laws.FnExactFormatUpdate", spec := "fnExactFormatUpdate", apart := false, narrowed := true }
def FnExactFormatUpdateUptoSaid : Prop := fnExactFormatUpdateUptoRow.holds Try.pinned (OpenSpec.upto fnExactFormatUpdateSpec)

/-- 'laws.FnExactParseUpdate', WHERE WHAT IT READS IS OF BULK AT MOST 1048576: true; the input reads as it did. -/
def fnExactParseUpdateUptoRow : OpenClaim := { program := "ytimlecfneibjlaa", sum := "7de3512db4cd24913cd4bc17fd5eeef8b3af112b72be37bca3852f2f36722459", func := "loop.example/g01921/laws.FnExactParseUpdate", spec := "fnExactParseUpdate", apart := false, narrowed := true }
def FnExactParseUpdateUptoSaid : Prop := fnExactParseUpdateUptoRow.holds Try.pinned (OpenSpec.upto fnExactParseUpdateSpec)

/-- 'laws.FnExactIsValidUpdate', WHERE WHAT IT READS IS OF BULK AT MOST 1048576: true; the input reads as it did. -/
def fnExactIsValidUpdateUptoRow : OpenClaim := { program := "ytimlecfneibjlaa", sum := "7de3512db4cd24913cd4bc17fd5eeef8b3af112b72be37bca3852f2f36722459", func := "loop.example/g01921/laws.FnExactIsValidUpdate", spec := "fnExactIsValidUpdate", unfollowed := true, recurses := true, apart := false, narrowed := true }
def FnExactIsValidUpdateUptoSaid : Prop := fnExactIsValidUpdateUptoRow.holds Try.pinned (OpenSpec.upto fnExactIsValidUpdateSpec)

/-- 'laws.FnExactApplyUpdate', WHERE WHAT IT READS IS OF BULK AT MOST 1048576: true; the input reads as it did. -/
def fnExactApplyUpdateUptoRow : OpenClaim := { program := "ytimlecfneibjlaa", sum := "7de3512db4cd24913cd4bc17fd5eeef8b3af112b72be37bca3852f2f36722459", func := "loop.example/g01921/laws.FnExactApplyUpdate", spec := "fnExactApplyUpdate", unfollowed := true, recurses := true, apart := false, narrowed := true }
def FnExactApplyUpdateUptoSaid : Prop := fnExactApplyUpdateUptoRow.holds Try.pinned (OpenSpec.upto fnExactApplyUpdateSpec)

end Rows
end Go.Proofs.Ytimlecfneibjlaa
