/-
  DERIVED. GIVEN WITH THE SEED: THE CARDS: each row of YtmaefhnlipcmoaaDoorRows.lean that lists a variable, with what it lists TIED to the program's text (the seventh form; the later family's looks); each row that meets fmt, with fmt's text TOLD by the authors' own Lean function (tested against real Go, not proved from fmt's source: count such statements apart). THE CARD IS WHAT COUNTS. Prove the row's statement (the work); the ties are given (YtmaefhnlipcmoaaDoorTie.lean); close each card by the builder's one call (the guide's Derived/Test/ToyasCard.lean, 'card_holds'). Laid BY PROGRAM, IN A SANDBOX (cutbox-door.mjs). By AI agents, Wed Nov 11 2026. No macro, syntax, notation, axiom, sorry.
-/
import Derived.Test.YtmaefhnlipcmoaaDoorRows
import GoSem.ClaimSeven
namespace Go.Proofs.YtmaefhnlipcmoaaDoor
namespace Rows

/-- THE TIED CARD OF 'provostlaw03.CellPuts'. -/
def cellPutsCard : Claim7 := { stood := { row := cellPutsRow, standIns := [], harness := (true, "3f747fb8207f1b97bc8915019d1eb67321adb6fbbac9ba6abd260c308357eee5"), looks := false }, kinds := [], alts := [], laidByText := true, laidKinds := [.data, .pinned], laidTests := true, laidLooks := .later }
def CellPutsCardSaid : Prop := Claim7.holds Tryd.pinned (.plain (OpenSpec.ofChange cellPutsSpec)) cellPutsCard

/-- THE TIED CARD OF 'provostlaw03.CellNames'. -/
def cellNamesCard : Claim7 := { stood := { row := cellNamesRow, standIns := [], harness := (true, "3f747fb8207f1b97bc8915019d1eb67321adb6fbbac9ba6abd260c308357eee5"), looks := false }, kinds := [], alts := [], laidByText := true, laidKinds := [.data, .pinned], laidTests := true, laidLooks := .later }
def CellNamesCardSaid : Prop := Claim7.holds Tryd.pinned (.plain (OpenSpec.ofChange cellNamesSpec)) cellNamesCard

/-- THE TIED CARD OF 'provostlaw03.CellTells'. -/
def cellTellsCard : Claim7 := { stood := { row := cellTellsRow, standIns := [], harness := (true, "3f747fb8207f1b97bc8915019d1eb67321adb6fbbac9ba6abd260c308357eee5"), looks := false }, kinds := [], alts := [], laidByText := true, laidKinds := [.data, .pinned], laidTests := true, laidLooks := .later }
def CellTellsCardSaid : Prop := Claim7.holds Tryd.pinned (.plain (OpenSpec.ofChange cellTellsSpec)) cellTellsCard

/-- THE TIED CARD OF 'provostlaw03.CellPutBack'. -/
def cellPutBackCard : Claim7 := { stood := { row := cellPutBackRow, standIns := [], harness := (true, "3f747fb8207f1b97bc8915019d1eb67321adb6fbbac9ba6abd260c308357eee5"), looks := false }, kinds := [], alts := [], laidByText := true, laidKinds := [.data, .pinned], laidTests := true, laidLooks := .later }
def CellPutBackCardSaid : Prop := Claim7.holds Tryd.pinned (.plain (OpenSpec.ofChange cellPutBackSpec)) cellPutBackCard

/-- THE TIED CARD OF 'provostlaw03.CellParts'. -/
def cellPartsCard : Claim7 := { stood := { row := cellPartsRow, standIns := [], harness := (true, "3f747fb8207f1b97bc8915019d1eb67321adb6fbbac9ba6abd260c308357eee5"), looks := false }, kinds := [], alts := [], laidByText := true, laidKinds := [.data, .pinned], laidTests := true, laidLooks := .later }
def CellPartsCardSaid : Prop := Claim7.holds Tryd.pinned (.plain (OpenSpec.ofChange cellPartsSpec)) cellPartsCard

/-- THE SECOND FORM's CARD OF 'provostlaw03.CellPuts'. -/
def cellPutsUptoCard : Claim7 := { stood := { row := cellPutsUptoRow, standIns := [], harness := (true, "3f747fb8207f1b97bc8915019d1eb67321adb6fbbac9ba6abd260c308357eee5"), looks := false }, kinds := [], alts := [], laidByText := true, laidKinds := [.data, .pinned], laidTests := true, laidLooks := .later }
def CellPutsUptoCardSaid : Prop := Claim7.holds Tryd.pinned (.plain (OpenSpec.upto cellPutsSpec)) cellPutsUptoCard

/-- THE SECOND FORM's CARD OF 'provostlaw03.CellNames'. -/
def cellNamesUptoCard : Claim7 := { stood := { row := cellNamesUptoRow, standIns := [], harness := (true, "3f747fb8207f1b97bc8915019d1eb67321adb6fbbac9ba6abd260c308357eee5"), looks := false }, kinds := [], alts := [], laidByText := true, laidKinds := [.data, .pinned], laidTests := true, laidLooks := .later }
def CellNamesUptoCardSaid : Prop := Claim7.holds Tryd.pinned (.plain (OpenSpec.upto cellNamesSpec)) cellNamesUptoCard

/-- THE SECOND FORM's CARD OF 'provostlaw03.CellTells'. -/
def cellTellsUptoCard : Claim7 := { stood := { row := cellTellsUptoRow, standIns := [], harness := (true, "3f747fb8207f1b97bc8915019d1eb67321adb6fbbac9ba6abd260c308357eee5"), looks := false }, kinds := [], alts := [], laidByText := true, laidKinds := [.data, .pinned], laidTests := true, laidLooks := .later }
def CellTellsUptoCardSaid : Prop := Claim7.holds Tryd.pinned (.plain (OpenSpec.upto cellTellsSpec)) cellTellsUptoCard

/-- THE SECOND FORM's CARD OF 'provostlaw03.CellPutBack'. -/
def cellPutBackUptoCard : Claim7 := { stood := { row := cellPutBackUptoRow, standIns := [], harness := (true, "3f747fb8207f1b97bc8915019d1eb67321adb6fbbac9ba6abd260c308357eee5"), looks := false }, kinds := [], alts := [], laidByText := true, laidKinds := [.data, .pinned], laidTests := true, laidLooks := .later }
def CellPutBackUptoCardSaid : Prop := Claim7.holds Tryd.pinned (.plain (OpenSpec.upto cellPutBackSpec)) cellPutBackUptoCard

/-- THE SECOND FORM's CARD OF 'provostlaw03.CellParts'. -/
def cellPartsUptoCard : Claim7 := { stood := { row := cellPartsUptoRow, standIns := [], harness := (true, "3f747fb8207f1b97bc8915019d1eb67321adb6fbbac9ba6abd260c308357eee5"), looks := false }, kinds := [], alts := [], laidByText := true, laidKinds := [.data, .pinned], laidTests := true, laidLooks := .later }
def CellPartsUptoCardSaid : Prop := Claim7.holds Tryd.pinned (.plain (OpenSpec.upto cellPartsSpec)) cellPartsUptoCard
end Rows
end Go.Proofs.YtmaefhnlipcmoaaDoor
