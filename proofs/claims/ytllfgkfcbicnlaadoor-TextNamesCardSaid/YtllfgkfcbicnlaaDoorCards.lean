/-
  DERIVED. GIVEN WITH THE SEED: THE CARDS: each row of YtllfgkfcbicnlaaDoorRows.lean that lists a variable, with what it lists TIED to the program's text (the seventh form; the later family's looks); each row that meets fmt, with fmt's text TOLD by the authors' own Lean function (tested against real Go, not proved from fmt's source: count such statements apart). THE CARD IS WHAT COUNTS. Prove the row's statement (the work); the ties are given (YtllfgkfcbicnlaaDoorTie.lean); close each card by the builder's one call (the guide's Derived/Test/ToyasCard.lean, 'card_holds'). Laid BY PROGRAM, IN A SANDBOX (cutbox-door.mjs). By AI agents, Wed Nov 11 2026. No macro, syntax, notation, axiom, sorry.
-/
import Derived.Test.YtllfgkfcbicnlaaDoorRows
import GoSem.ClaimSeven
namespace Go.Proofs.YtllfgkfcbicnlaaDoor
namespace Rows

/-- THE TIED CARD OF 'provostlaw01.TextBoth'. -/
def textBothCard : Claim7 := { stood := { row := textBothRow, standIns := [], harness := (true, "43a461dede2be16f7040214212f4b4820fa7ab4f6fa1eab68a6d3d071a59e634"), looks := false }, kinds := [], alts := [], laidByText := true, laidKinds := [.data, .pinned], laidTests := true, laidLooks := .later }
def TextBothCardSaid : Prop := Claim7.holds Tryd.pinned (.plain (OpenSpec.ofChange textBothSpec)) textBothCard

/-- THE TIED CARD OF 'provostlaw01.TextWhere'. -/
def textWhereCard : Claim7 := { stood := { row := textWhereRow, standIns := [], harness := (true, "43a461dede2be16f7040214212f4b4820fa7ab4f6fa1eab68a6d3d071a59e634"), looks := false }, kinds := [], alts := [], laidByText := true, laidKinds := [.data, .pinned], laidTests := true, laidLooks := .later }
def TextWhereCardSaid : Prop := Claim7.holds Tryd.pinned (.plain (OpenSpec.ofChange textWhereSpec)) textWhereCard

/-- THE TIED CARD OF 'provostlaw01.TextTells'. -/
def textTellsCard : Claim7 := { stood := { row := textTellsRow, standIns := [], harness := (true, "43a461dede2be16f7040214212f4b4820fa7ab4f6fa1eab68a6d3d071a59e634"), looks := false }, kinds := [], alts := [], laidByText := true, laidKinds := [.data, .pinned], laidTests := true, laidLooks := .later }
def TextTellsCardSaid : Prop := Claim7.holds Tryd.pinned (.plain (OpenSpec.ofChange textTellsSpec)) textTellsCard

/-- THE TIED CARD OF 'provostlaw01.TextThere'. -/
def textThereCard : Claim7 := { stood := { row := textThereRow, standIns := [], harness := (true, "43a461dede2be16f7040214212f4b4820fa7ab4f6fa1eab68a6d3d071a59e634"), looks := false }, kinds := [], alts := [], laidByText := true, laidKinds := [.data, .pinned], laidTests := true, laidLooks := .later }
def TextThereCardSaid : Prop := Claim7.holds Tryd.pinned (.plain (OpenSpec.ofChange textThereSpec)) textThereCard

/-- THE TIED CARD OF 'provostlaw01.TextNames'. -/
def textNamesCard : Claim7 := { stood := { row := textNamesRow, standIns := [], harness := (true, "43a461dede2be16f7040214212f4b4820fa7ab4f6fa1eab68a6d3d071a59e634"), looks := false }, kinds := [], alts := [], laidByText := true, laidKinds := [.data, .pinned], laidTests := true, laidLooks := .later }
def TextNamesCardSaid : Prop := Claim7.holds Tryd.pinned (.plain (OpenSpec.ofChange textNamesSpec)) textNamesCard

/-- THE SECOND FORM's CARD OF 'provostlaw01.TextBoth'. -/
def textBothUptoCard : Claim7 := { stood := { row := textBothUptoRow, standIns := [], harness := (true, "43a461dede2be16f7040214212f4b4820fa7ab4f6fa1eab68a6d3d071a59e634"), looks := false }, kinds := [], alts := [], laidByText := true, laidKinds := [.data, .pinned], laidTests := true, laidLooks := .later }
def TextBothUptoCardSaid : Prop := Claim7.holds Tryd.pinned (.plain (OpenSpec.upto textBothSpec)) textBothUptoCard

/-- THE SECOND FORM's CARD OF 'provostlaw01.TextWhere'. -/
def textWhereUptoCard : Claim7 := { stood := { row := textWhereUptoRow, standIns := [], harness := (true, "43a461dede2be16f7040214212f4b4820fa7ab4f6fa1eab68a6d3d071a59e634"), looks := false }, kinds := [], alts := [], laidByText := true, laidKinds := [.data, .pinned], laidTests := true, laidLooks := .later }
def TextWhereUptoCardSaid : Prop := Claim7.holds Tryd.pinned (.plain (OpenSpec.upto textWhereSpec)) textWhereUptoCard

/-- THE SECOND FORM's CARD OF 'provostlaw01.TextTells'. -/
def textTellsUptoCard : Claim7 := { stood := { row := textTellsUptoRow, standIns := [], harness := (true, "43a461dede2be16f7040214212f4b4820fa7ab4f6fa1eab68a6d3d071a59e634"), looks := false }, kinds := [], alts := [], laidByText := true, laidKinds := [.data, .pinned], laidTests := true, laidLooks := .later }
def TextTellsUptoCardSaid : Prop := Claim7.holds Tryd.pinned (.plain (OpenSpec.upto textTellsSpec)) textTellsUptoCard

/-- THE SECOND FORM's CARD OF 'provostlaw01.TextThere'. -/
def textThereUptoCard : Claim7 := { stood := { row := textThereUptoRow, standIns := [], harness := (true, "43a461dede2be16f7040214212f4b4820fa7ab4f6fa1eab68a6d3d071a59e634"), looks := false }, kinds := [], alts := [], laidByText := true, laidKinds := [.data, .pinned], laidTests := true, laidLooks := .later }
def TextThereUptoCardSaid : Prop := Claim7.holds Tryd.pinned (.plain (OpenSpec.upto textThereSpec)) textThereUptoCard

/-- THE SECOND FORM's CARD OF 'provostlaw01.TextNames'. -/
def textNamesUptoCard : Claim7 := { stood := { row := textNamesUptoRow, standIns := [], harness := (true, "43a461dede2be16f7040214212f4b4820fa7ab4f6fa1eab68a6d3d071a59e634"), looks := false }, kinds := [], alts := [], laidByText := true, laidKinds := [.data, .pinned], laidTests := true, laidLooks := .later }
def TextNamesUptoCardSaid : Prop := Claim7.holds Tryd.pinned (.plain (OpenSpec.upto textNamesSpec)) textNamesUptoCard
end Rows
end Go.Proofs.YtllfgkfcbicnlaaDoor
