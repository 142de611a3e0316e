/-
  DERIVED. GIVEN WITH THE SEED: THE CARDS: each row of YtmojjbhjjhdpaaaDoorRows.lean that lists a variable, with what it lists TIED to the program's text (the seventh form; the later family's looks); each row that meets fmt, with fmt's text TOLD by the authors' own Lean function (tested against real Go, not proved from fmt's source: count such statements apart). THE CARD IS WHAT COUNTS. Prove the row's statement (the work); the ties are given (YtmojjbhjjhdpaaaDoorTie.lean); close each card by the builder's one call (the guide's Derived/Test/ToyasCard.lean, 'card_holds'). Laid BY PROGRAM, IN A SANDBOX (cutbox-door.mjs). By AI agents, Wed Nov 11 2026. No macro, syntax, notation, axiom, sorry.
-/
import Derived.Test.YtmojjbhjjhdpaaaDoorRows
import GoSem.ClaimSeven
namespace Go.Proofs.YtmojjbhjjhdpaaaDoor
namespace Rows

/-- THE TIED CARD OF 'laws.FnExactFormatInt'. -/
def fnExactFormatIntCard : Claim7 := { stood := { row := fnExactFormatIntRow, standIns := [], harness := (true, "d6fc352568fc9d6b03ac42d6f13aba358add47ee0190655f7c0068503cb2dd75"), looks := true }, kinds := [], alts := [], laidByText := true, laidKinds := [.data, .data, .data], laidTests := true, laidLooks := .later }
def FnExactFormatIntCardSaid : Prop := Claim7.holds Tryd.pinned (.plain (OpenSpec.ofChange fnExactFormatIntSpec)) fnExactFormatIntCard

/-- THE TIED CARD OF 'laws.FnExactParseInt'. -/
def fnExactParseIntCard : Claim7 := { stood := { row := fnExactParseIntRow, standIns := [], harness := (true, "d6fc352568fc9d6b03ac42d6f13aba358add47ee0190655f7c0068503cb2dd75"), looks := true }, kinds := [], alts := [], laidByText := true, laidKinds := [.data, .data, .data, .sentinel, .sentinel], laidTests := true, laidLooks := .later }
def FnExactParseIntCardSaid : Prop := Claim7.holds Tryd.pinned (.plain (OpenSpec.ofChange fnExactParseIntSpec)) fnExactParseIntCard

/-- THE TIED CARD OF 'laws.FnExactFormatRational'. -/
def fnExactFormatRationalCard : Claim7 := { stood := { row := fnExactFormatRationalRow, standIns := [], harness := (true, "d6fc352568fc9d6b03ac42d6f13aba358add47ee0190655f7c0068503cb2dd75"), looks := true }, kinds := [], alts := [], laidByText := true, laidKinds := [.data, .data, .data], laidTests := true, laidLooks := .later }
def FnExactFormatRationalCardSaid : Prop := Claim7.holds Tryd.pinned (.plain (OpenSpec.ofChange fnExactFormatRationalSpec)) fnExactFormatRationalCard

/-- THE TIED CARD OF 'laws.FnExactParseRational'. -/
def fnExactParseRationalCard : Claim7 := { stood := { row := fnExactParseRationalRow, standIns := [], harness := (true, "d6fc352568fc9d6b03ac42d6f13aba358add47ee0190655f7c0068503cb2dd75"), looks := true }, kinds := [], alts := [], laidByText := true, laidKinds := [.data, .data, .data, .sentinel, .sentinel], laidTests := true, laidLooks := .later }
def FnExactParseRationalCardSaid : Prop := Claim7.holds Tryd.pinned (.plain (OpenSpec.ofChange fnExactParseRationalSpec)) fnExactParseRationalCard

/-- THE TIED CARD OF 'laws.FnExactFormatTable'. -/
def fnExactFormatTableCard : Claim7 := { stood := { row := fnExactFormatTableRow, standIns := [], harness := (true, "d6fc352568fc9d6b03ac42d6f13aba358add47ee0190655f7c0068503cb2dd75"), looks := true }, kinds := [], alts := [], laidByText := true, laidKinds := [.data, .data, .data], laidTests := true, laidLooks := .later }
def FnExactFormatTableCardSaid : Prop := Claim7.holds Tryd.pinned (.plain (OpenSpec.ofChange fnExactFormatTableSpec)) fnExactFormatTableCard

/-- THE TIED CARD OF 'laws.FnExactParseTable'. -/
def fnExactParseTableCard : Claim7 := { stood := { row := fnExactParseTableRow, standIns := [], harness := (true, "d6fc352568fc9d6b03ac42d6f13aba358add47ee0190655f7c0068503cb2dd75"), looks := true }, kinds := [], alts := [], laidByText := true, laidKinds := [.data, .data, .data, .data, .pinned], laidTests := true, laidLooks := .later }
def FnExactParseTableCardSaid : Prop := Claim7.holds Tryd.pinned (.plain (OpenSpec.ofChange fnExactParseTableSpec)) fnExactParseTableCard

/-- THE TIED CARD OF 'laws.FnExactFormatDatabase'. -/
def fnExactFormatDatabaseCard : Claim7 := { stood := { row := fnExactFormatDatabaseRow, standIns := [], harness := (true, "d6fc352568fc9d6b03ac42d6f13aba358add47ee0190655f7c0068503cb2dd75"), looks := true }, kinds := [], alts := [], laidByText := true, laidKinds := [.data, .data, .data], laidTests := true, laidLooks := .later }
def FnExactFormatDatabaseCardSaid : Prop := Claim7.holds Tryd.pinned (.plain (OpenSpec.ofChange fnExactFormatDatabaseSpec)) fnExactFormatDatabaseCard

/-- THE TIED CARD OF 'laws.FnExactParseDatabase'. -/
def fnExactParseDatabaseCard : Claim7 := { stood := { row := fnExactParseDatabaseRow, standIns := [], harness := (true, "d6fc352568fc9d6b03ac42d6f13aba358add47ee0190655f7c0068503cb2dd75"), looks := true }, kinds := [], alts := [], laidByText := true, laidKinds := [.data, .data, .data, .data, .pinned], laidTests := true, laidLooks := .later }
def FnExactParseDatabaseCardSaid : Prop := Claim7.holds Tryd.pinned (.plain (OpenSpec.ofChange fnExactParseDatabaseSpec)) fnExactParseDatabaseCard

/-- THE TIED CARD OF 'laws.FnIntegerEncodings'. -/
def fnIntegerEncodingsCard : Claim7 := { stood := { row := fnIntegerEncodingsRow, standIns := [], harness := (true, "d6fc352568fc9d6b03ac42d6f13aba358add47ee0190655f7c0068503cb2dd75"), looks := true }, kinds := [], alts := [], laidByText := true, laidKinds := [.data, .data, .data, .sentinel, .sentinel], laidTests := true, laidLooks := .later }
def FnIntegerEncodingsCardSaid : Prop := Claim7.holds Tryd.pinned (.plain (OpenSpec.ofChange fnIntegerEncodingsSpec)) fnIntegerEncodingsCard

/-- THE TIED CARD OF 'laws.FnRationals'. -/
def fnRationalsCard : Claim7 := { stood := { row := fnRationalsRow, standIns := [], harness := (true, "d6fc352568fc9d6b03ac42d6f13aba358add47ee0190655f7c0068503cb2dd75"), looks := true }, kinds := [], alts := [], laidByText := true, laidKinds := [.data, .data, .data, .sentinel, .sentinel], laidTests := true, laidLooks := .later }
def FnRationalsCardSaid : Prop := Claim7.holds Tryd.pinned (.plain (OpenSpec.ofChange fnRationalsSpec)) fnRationalsCard

/-- THE SECOND FORM's CARD OF 'laws.FnExactFormatInt'. -/
def fnExactFormatIntUptoCard : Claim7 := { stood := { row := fnExactFormatIntUptoRow, standIns := [], harness := (true, "d6fc352568fc9d6b03ac42d6f13aba358add47ee0190655f7c0068503cb2dd75"), looks := true }, kinds := [], alts := [], laidByText := true, laidKinds := [.data, .data, .data], laidTests := true, laidLooks := .later }
def FnExactFormatIntUptoCardSaid : Prop := Claim7.holds Tryd.pinned (.plain (OpenSpec.upto fnExactFormatIntSpec)) fnExactFormatIntUptoCard

/-- THE SECOND FORM's CARD OF 'laws.FnExactParseInt'. -/
def fnExactParseIntUptoCard : Claim7 := { stood := { row := fnExactParseIntUptoRow, standIns := [], harness := (true, "d6fc352568fc9d6b03ac42d6f13aba358add47ee0190655f7c0068503cb2dd75"), looks := true }, kinds := [], alts := [], laidByText := true, laidKinds := [.data, .data, .data, .sentinel, .sentinel], laidTests := true, laidLooks := .later }
def FnExactParseIntUptoCardSaid : Prop := Claim7.holds Tryd.pinned (.plain (OpenSpec.upto fnExactParseIntSpec)) fnExactParseIntUptoCard

/-- THE SECOND FORM's CARD OF 'laws.FnExactFormatRational'. -/
def fnExactFormatRationalUptoCard : Claim7 := { stood := { row := fnExactFormatRationalUptoRow, standIns := [], harness := (true, "d6fc352568fc9d6b03ac42d6f13aba358add47ee0190655f7c0068503cb2dd75"), looks := true }, kinds := [], alts := [], laidByText := true, laidKinds := [.data, .data, .data], laidTests := true, laidLooks := .later }
def FnExactFormatRationalUptoCardSaid : Prop := Claim7.holds Tryd.pinned (.plain (OpenSpec.upto fnExactFormatRationalSpec)) fnExactFormatRationalUptoCard

/-- THE SECOND FORM's CARD OF 'laws.FnExactParseRational'. -/
def fnExactParseRationalUptoCard : Claim7 := { stood := { row := fnExactParseRationalUptoRow, standIns := [], harness := (true, "d6fc352568fc9d6b03ac42d6f13aba358add47ee0190655f7c0068503cb2dd75"), looks := true }, kinds := [], alts := [], laidByText := true, laidKinds := [.data, .data, .data, .sentinel, .sentinel], laidTests := true, laidLooks := .later }
def FnExactParseRationalUptoCardSaid : Prop := Claim7.holds Tryd.pinned (.plain (OpenSpec.upto fnExactParseRationalSpec)) fnExactParseRationalUptoCard

/-- THE SECOND FORM's CARD OF 'laws.FnExactFormatTable'. -/
def fnExactFormatTableUptoCard : Claim7 := { stood := { row := fnExactFormatTableUptoRow, standIns := [], harness := (true, "d6fc352568fc9d6b03ac42d6f13aba358add47ee0190655f7c0068503cb2dd75"), looks := true }, kinds := [], alts := [], laidByText := true, laidKinds := [.data, .data, .data], laidTests := true, laidLooks := .later }
def FnExactFormatTableUptoCardSaid : Prop := Claim7.holds Tryd.pinned (.plain (OpenSpec.upto fnExactFormatTableSpec)) fnExactFormatTableUptoCard

/-- THE SECOND FORM's CARD OF 'laws.FnExactParseTable'. -/
def fnExactParseTableUptoCard : Claim7 := { stood := { row := fnExactParseTableUptoRow, standIns := [], harness := (true, "d6fc352568fc9d6b03ac42d6f13aba358add47ee0190655f7c0068503cb2dd75"), looks := true }, kinds := [], alts := [], laidByText := true, laidKinds := [.data, .data, .data, .data, .pinned], laidTests := true, laidLooks := .later }
def FnExactParseTableUptoCardSaid : Prop := Claim7.holds Tryd.pinned (.plain (OpenSpec.upto fnExactParseTableSpec)) fnExactParseTableUptoCard

/-- THE SECOND FORM's CARD OF 'laws.FnExactFormatDatabase'. -/
def fnExactFormatDatabaseUptoCard : Claim7 := { stood := { row := fnExactFormatDatabaseUptoRow, standIns := [], harness := (true, "d6fc352568fc9d6b03ac42d6f13aba358add47ee0190655f7c0068503cb2dd75"), looks := true }, kinds := [], alts := [], laidByText := true, laidKinds := [.data, .data, .data], laidTests := true, laidLooks := .later }
def FnExactFormatDatabaseUptoCardSaid : Prop := Claim7.holds Tryd.pinned (.plain (OpenSpec.upto fnExactFormatDatabaseSpec)) fnExactFormatDatabaseUptoCard

/-- THE SECOND FORM's CARD OF 'laws.FnExactParseDatabase'. -/
def fnExactParseDatabaseUptoCard : Claim7 := { stood := { row := fnExactParseDatabaseUptoRow, standIns := [], harness := (true, "d6fc352568fc9d6b03ac42d6f13aba358add47ee0190655f7c0068503cb2dd75"), looks := true }, kinds := [], alts := [], laidByText := true, laidKinds := [.data, .data, .data, .data, .pinned], laidTests := true, laidLooks := .later }
def FnExactParseDatabaseUptoCardSaid : Prop := Claim7.holds Tryd.pinned (.plain (OpenSpec.upto fnExactParseDatabaseSpec)) fnExactParseDatabaseUptoCard

/-- THE SECOND FORM's CARD OF 'laws.FnIntegerEncodings'. -/
def fnIntegerEncodingsUptoCard : Claim7 := { stood := { row := fnIntegerEncodingsUptoRow, standIns := [], harness := (true, "d6fc352568fc9d6b03ac42d6f13aba358add47ee0190655f7c0068503cb2dd75"), looks := true }, kinds := [], alts := [], laidByText := true, laidKinds := [.data, .data, .data, .sentinel, .sentinel], laidTests := true, laidLooks := .later }
def FnIntegerEncodingsUptoCardSaid : Prop := Claim7.holds Tryd.pinned (.plain (OpenSpec.upto fnIntegerEncodingsSpec)) fnIntegerEncodingsUptoCard

/-- THE SECOND FORM's CARD OF 'laws.FnRationals'. -/
def fnRationalsUptoCard : Claim7 := { stood := { row := fnRationalsUptoRow, standIns := [], harness := (true, "d6fc352568fc9d6b03ac42d6f13aba358add47ee0190655f7c0068503cb2dd75"), looks := true }, kinds := [], alts := [], laidByText := true, laidKinds := [.data, .data, .data, .sentinel, .sentinel], laidTests := true, laidLooks := .later }
def FnRationalsUptoCardSaid : Prop := Claim7.holds Tryd.pinned (.plain (OpenSpec.upto fnRationalsSpec)) fnRationalsUptoCard
end Rows
end Go.Proofs.YtmojjbhjjhdpaaaDoor
