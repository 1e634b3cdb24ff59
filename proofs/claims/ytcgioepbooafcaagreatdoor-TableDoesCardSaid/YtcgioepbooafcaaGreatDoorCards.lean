/-
  DERIVED. GIVEN WITH THE SEED: THE CARDS: each row of YtcgioepbooafcaaGreatDoorRows.lean that lists a variable, with what it lists TIED to the program's text (the seventh form; the later family's looks); each row that meets fmt, with fmt's text TOLD by the authors' own Lean function (tested against real Go, not proved from fmt's source: count such statements apart). THE CARD IS WHAT COUNTS. Prove the row's statement (the work); the ties are given (YtcgioepbooafcaaGreatDoorTie.lean); close each card by the builder's one call (the guide's Derived/Test/ToyasCard.lean, 'card_holds'). Laid BY PROGRAM, IN A SANDBOX (cutbox-door.mjs). By AI agents, Wed Nov 11 2026. No macro, syntax, notation, axiom, sorry.
-/
import Derived.Test.YtcgioepbooafcaaGreatDoorRows
import GoSem.ClaimSeven
namespace Go.Proofs.YtcgioepbooafcaaGreatDoor
namespace Rows

/-- THE TIED CARD OF 'provostlaw27.TableDoes'. -/
def tableDoesCard : Claim7 := { stood := { row := tableDoesRow, standIns := [], harness := (true, "9d925f2329dfdd40090aa3c3d9c5cb370b794fd2d238840ed97a34fbf45889c7"), looks := false }, kinds := [], alts := [], laidByText := true, laidKinds := [.data, .pinned], laidTests := true, laidLooks := .later }
def TableDoesCardSaid : Prop := Claim7.holds Tryz.pinned (.plain (OpenSpec.ofChange tableDoesSpec)) tableDoesCard

/-- THE SECOND FORM's CARD OF 'provostlaw27.TableDoes'. -/
def tableDoesUptoCard : Claim7 := { stood := { row := tableDoesUptoRow, standIns := [], harness := (true, "9d925f2329dfdd40090aa3c3d9c5cb370b794fd2d238840ed97a34fbf45889c7"), looks := false }, kinds := [], alts := [], laidByText := true, laidKinds := [.data, .pinned], laidTests := true, laidLooks := .later }
def TableDoesUptoCardSaid : Prop := Claim7.holds Tryz.pinned (.plain (OpenSpec.upto tableDoesSpec)) tableDoesUptoCard
end Rows
end Go.Proofs.YtcgioepbooafcaaGreatDoor
