/-
  DERIVED. GIVEN WITH THE SEED: THE CARDS: each row of YtdaadoiedaplaaaDoorRows.lean that lists a variable, with what it lists TIED to the program's text (the seventh form; the later family's looks); each row that meets fmt, with fmt's text TOLD by the authors' own Lean function (tested against real Go, not proved from fmt's source: count such statements apart). THE CARD IS WHAT COUNTS. Prove the row's statement (the work); the ties are given (YtdaadoiedaplaaaDoorTie.lean); close each card by the builder's one call (the guide's Derived/Test/ToyasCard.lean, 'card_holds'). Laid BY PROGRAM, IN A SANDBOX (cutbox-door.mjs). By AI agents, Wed Nov 11 2026. No macro, syntax, notation, axiom, sorry.
-/
import Derived.Test.YtdaadoiedaplaaaDoorRows
import GoSem.ClaimSeven
namespace Go.Proofs.YtdaadoiedaplaaaDoor
namespace Rows

/-- THE TIED CARD OF 'provostlaw12.DayReads'. -/
def dayReadsCard : Claim7 := { stood := { row := dayReadsRow, standIns := [], harness := (true, "9dad1e08f6c8d2027cebc61acc31d6ef1a689ef6c3038fbfe70cdb5ff32d60b7"), looks := false }, kinds := [], alts := [], laidByText := true, laidKinds := [.data, .pinned], laidTests := true, laidLooks := .later }
def DayReadsCardSaid : Prop := Claim7.holds Tryd.pinned (.plain (OpenSpec.ofChange dayReadsSpec)) dayReadsCard

/-- THE TIED CARD OF 'provostlaw12.DayTells'. -/
def dayTellsCard : Claim7 := { stood := { row := dayTellsRow, standIns := [], harness := (true, "9dad1e08f6c8d2027cebc61acc31d6ef1a689ef6c3038fbfe70cdb5ff32d60b7"), looks := false }, kinds := [], alts := [], laidByText := true, laidKinds := [.data, .data, .data, .data, .pinned], laidTests := true, laidLooks := .later }
def DayTellsCardSaid : Prop := Claim7.holds Tryd.pinned (.plain (OpenSpec.ofChange dayTellsSpec)) dayTellsCard

/-- THE TIED CARD OF 'provostlaw12.DayNames'. -/
def dayNamesCard : Claim7 := { stood := { row := dayNamesRow, standIns := [], harness := (true, "9dad1e08f6c8d2027cebc61acc31d6ef1a689ef6c3038fbfe70cdb5ff32d60b7"), looks := false }, kinds := [], alts := [], laidByText := true, laidKinds := [.data, .data, .data, .data, .pinned], laidTests := true, laidLooks := .later }
def DayNamesCardSaid : Prop := Claim7.holds Tryd.pinned (.plain (OpenSpec.ofChange dayNamesSpec)) dayNamesCard

/-- THE TIED CARD OF 'provostlaw12.DayBack'. -/
def dayBackCard : Claim7 := { stood := { row := dayBackRow, standIns := [], harness := (true, "9dad1e08f6c8d2027cebc61acc31d6ef1a689ef6c3038fbfe70cdb5ff32d60b7"), looks := false }, kinds := [], alts := [], laidByText := true, laidKinds := [.data, .data, .data, .data, .pinned], laidTests := true, laidLooks := .later }
def DayBackCardSaid : Prop := Claim7.holds Tryd.pinned (.plain (OpenSpec.ofChange dayBackSpec)) dayBackCard

/-- THE TIED CARD OF 'provostlaw12.DayOffsets'. -/
def dayOffsetsCard : Claim7 := { stood := { row := dayOffsetsRow, standIns := [], harness := (true, "9dad1e08f6c8d2027cebc61acc31d6ef1a689ef6c3038fbfe70cdb5ff32d60b7"), looks := false }, kinds := [], alts := [], laidByText := true, laidKinds := [.data, .data, .data, .data, .pinned], laidTests := true, laidLooks := .later }
def DayOffsetsCardSaid : Prop := Claim7.holds Tryd.pinned (.plain (OpenSpec.ofChange dayOffsetsSpec)) dayOffsetsCard

/-- THE TIED CARD OF 'provostlaw12.DayNext'. -/
def dayNextCard : Claim7 := { stood := { row := dayNextRow, standIns := [], harness := (true, "9dad1e08f6c8d2027cebc61acc31d6ef1a689ef6c3038fbfe70cdb5ff32d60b7"), looks := false }, kinds := [], alts := [], laidByText := true, laidKinds := [.data, .data, .data, .data, .pinned], laidTests := true, laidLooks := .later }
def DayNextCardSaid : Prop := Claim7.holds Tryd.pinned (.plain (OpenSpec.ofChange dayNextSpec)) dayNextCard

/-- THE TIED CARD OF 'provostlaw12.DayOrder'. -/
def dayOrderCard : Claim7 := { stood := { row := dayOrderRow, standIns := [], harness := (true, "9dad1e08f6c8d2027cebc61acc31d6ef1a689ef6c3038fbfe70cdb5ff32d60b7"), looks := false }, kinds := [], alts := [], laidByText := true, laidKinds := [.data, .data, .data, .data, .pinned], laidTests := true, laidLooks := .later }
def DayOrderCardSaid : Prop := Claim7.holds Tryd.pinned (.plain (OpenSpec.ofChange dayOrderSpec)) dayOrderCard

/-- THE SECOND FORM's CARD OF 'provostlaw12.DayReads'. -/
def dayReadsUptoCard : Claim7 := { stood := { row := dayReadsUptoRow, standIns := [], harness := (true, "9dad1e08f6c8d2027cebc61acc31d6ef1a689ef6c3038fbfe70cdb5ff32d60b7"), looks := false }, kinds := [], alts := [], laidByText := true, laidKinds := [.data, .pinned], laidTests := true, laidLooks := .later }
def DayReadsUptoCardSaid : Prop := Claim7.holds Tryd.pinned (.plain (OpenSpec.upto dayReadsSpec)) dayReadsUptoCard

/-- THE SECOND FORM's CARD OF 'provostlaw12.DayTells'. -/
def dayTellsUptoCard : Claim7 := { stood := { row := dayTellsUptoRow, standIns := [], harness := (true, "9dad1e08f6c8d2027cebc61acc31d6ef1a689ef6c3038fbfe70cdb5ff32d60b7"), looks := false }, kinds := [], alts := [], laidByText := true, laidKinds := [.data, .data, .data, .data, .pinned], laidTests := true, laidLooks := .later }
def DayTellsUptoCardSaid : Prop := Claim7.holds Tryd.pinned (.plain (OpenSpec.upto dayTellsSpec)) dayTellsUptoCard

/-- THE SECOND FORM's CARD OF 'provostlaw12.DayNames'. -/
def dayNamesUptoCard : Claim7 := { stood := { row := dayNamesUptoRow, standIns := [], harness := (true, "9dad1e08f6c8d2027cebc61acc31d6ef1a689ef6c3038fbfe70cdb5ff32d60b7"), looks := false }, kinds := [], alts := [], laidByText := true, laidKinds := [.data, .data, .data, .data, .pinned], laidTests := true, laidLooks := .later }
def DayNamesUptoCardSaid : Prop := Claim7.holds Tryd.pinned (.plain (OpenSpec.upto dayNamesSpec)) dayNamesUptoCard

/-- THE SECOND FORM's CARD OF 'provostlaw12.DayBack'. -/
def dayBackUptoCard : Claim7 := { stood := { row := dayBackUptoRow, standIns := [], harness := (true, "9dad1e08f6c8d2027cebc61acc31d6ef1a689ef6c3038fbfe70cdb5ff32d60b7"), looks := false }, kinds := [], alts := [], laidByText := true, laidKinds := [.data, .data, .data, .data, .pinned], laidTests := true, laidLooks := .later }
def DayBackUptoCardSaid : Prop := Claim7.holds Tryd.pinned (.plain (OpenSpec.upto dayBackSpec)) dayBackUptoCard

/-- THE SECOND FORM's CARD OF 'provostlaw12.DayOffsets'. -/
def dayOffsetsUptoCard : Claim7 := { stood := { row := dayOffsetsUptoRow, standIns := [], harness := (true, "9dad1e08f6c8d2027cebc61acc31d6ef1a689ef6c3038fbfe70cdb5ff32d60b7"), looks := false }, kinds := [], alts := [], laidByText := true, laidKinds := [.data, .data, .data, .data, .pinned], laidTests := true, laidLooks := .later }
def DayOffsetsUptoCardSaid : Prop := Claim7.holds Tryd.pinned (.plain (OpenSpec.upto dayOffsetsSpec)) dayOffsetsUptoCard

/-- THE SECOND FORM's CARD OF 'provostlaw12.DayNext'. -/
def dayNextUptoCard : Claim7 := { stood := { row := dayNextUptoRow, standIns := [], harness := (true, "9dad1e08f6c8d2027cebc61acc31d6ef1a689ef6c3038fbfe70cdb5ff32d60b7"), looks := false }, kinds := [], alts := [], laidByText := true, laidKinds := [.data, .data, .data, .data, .pinned], laidTests := true, laidLooks := .later }
def DayNextUptoCardSaid : Prop := Claim7.holds Tryd.pinned (.plain (OpenSpec.upto dayNextSpec)) dayNextUptoCard

/-- THE SECOND FORM's CARD OF 'provostlaw12.DayOrder'. -/
def dayOrderUptoCard : Claim7 := { stood := { row := dayOrderUptoRow, standIns := [], harness := (true, "9dad1e08f6c8d2027cebc61acc31d6ef1a689ef6c3038fbfe70cdb5ff32d60b7"), looks := false }, kinds := [], alts := [], laidByText := true, laidKinds := [.data, .data, .data, .data, .pinned], laidTests := true, laidLooks := .later }
def DayOrderUptoCardSaid : Prop := Claim7.holds Tryd.pinned (.plain (OpenSpec.upto dayOrderSpec)) dayOrderUptoCard
end Rows
end Go.Proofs.YtdaadoiedaplaaaDoor
