/-
  No cell of these rows narrows 'for every input' (looked for: loops, veiled, ifaces, maps, wideKeys, modest, calm, conditions, laid).
  DERIVED. THE GIVEN ROWS OF THIS SEAT. 5 by the template 'for every input the law returns true; each argument reads behind the call as it read before'; 0 by the template 'total and deterministic' (their statements: YtgoecnhkmfnenaaTotals.lean).
  GIVEN WITH THE SEED: the statements are not yours to turn. If you find one false, say at which input.
  Laid BY PROGRAM, IN A SANDBOX (cutbox-rows.mjs): the forced cells as the released guide's own fill.sh prints them over the translation c61f39f8499020d6… (all of the seat's roots in one cut). By AI agents, Wed Nov 11 2026. No macro, syntax, notation, axiom, sorry.
-/
import Derived.Test.YtgoecnhkmfnenaaChecked
import GoSem.Claim
import GoSem.ClaimJoined
import GoSem.ClaimMapViews
import Derived.JoinedTies
import Derived.KernelRfl
namespace Go.Proofs.Ytgoecnhkmfnenaa
/- THE CELL 'sum', in the pinned program and in every row, IS THE sha256 OF THE DUMP (.gsa) THAT YtgoecnhkmfnenaaProg.lean LOADS. Nothing in Lean hashes anything: it is a label: what it is worth is what the hold of that sum in a sandbox is worth. -/
noncomputable def Try.pinned : Pinned := { name := "ytgoecnhkmfnenaa", sum := "c61f39f8499020d61e203c670b32410d2bf441318dc4c3da414511ef69fb7ccb", checked := Try.checked }
namespace Rows
def none {H : Type} : Left H := { results := [], args := [] }

/-- 'provostlaw22.KindWraps': WHATEVER THE INPUT: true; the input reads as it did. -/
def kindWrapsSpec : ChangeSpec := { name := "kindWraps", fn := fun _ => fun
  | [d1, d2] => { results := [.lit (.bool true)], args := [d1, d2] }
  | _ => none }
def kindWrapsRow : OpenClaim := { program := "ytgoecnhkmfnenaa", sum := "c61f39f8499020d61e203c670b32410d2bf441318dc4c3da414511ef69fb7ccb", func := "provost/provostlaw22.KindWraps", spec := "kindWraps", unfollowed := true, recurses := true, apart := false }
def KindWrapsSaid : Prop := kindWrapsRow.holds Try.pinned (OpenSpec.ofChange kindWrapsSpec)

/-- ITS FALSE NEIGHBOUR: 'it returns false'. Refute it at one input. -/
def kindWrapsWrong : ChangeSpec := { name := "kindWraps", fn := fun _ => fun
  | [d1, d2] => { results := [.lit (.bool false)], args := [d1, d2] }
  | _ => none }
def KindWrapsWrongFalsely : Prop := kindWrapsRow.holds Try.pinned (OpenSpec.ofChange kindWrapsWrong)

/-- 'provostlaw22.KindUses': WHATEVER THE INPUT: true; the input reads as it did. -/
def kindUsesSpec : ChangeSpec := { name := "kindUses", fn := fun _ => fun
  | [d1, d2, d3] => { results := [.lit (.bool true)], args := [d1, d2, d3] }
  | _ => none }
def kindUsesRow : OpenClaim := { program := "ytgoecnhkmfnenaa", sum := "c61f39f8499020d61e203c670b32410d2bf441318dc4c3da414511ef69fb7ccb", func := "provost/provostlaw22.KindUses", spec := "kindUses", unfollowed := true, recurses := true, apart := false }
def KindUsesSaid : Prop := kindUsesRow.holds Try.pinned (OpenSpec.ofChange kindUsesSpec)

/-- ITS FALSE NEIGHBOUR: 'it returns false'. Refute it at one input. -/
def kindUsesWrong : ChangeSpec := { name := "kindUses", fn := fun _ => fun
  | [d1, d2, d3] => { results := [.lit (.bool false)], args := [d1, d2, d3] }
  | _ => none }
def KindUsesWrongFalsely : Prop := kindUsesRow.holds Try.pinned (OpenSpec.ofChange kindUsesWrong)

/-- 'provostlaw22.KindOrder': WHATEVER THE INPUT: true; the input reads as it did. -/
def kindOrderSpec : ChangeSpec := { name := "kindOrder", fn := fun _ => fun
  | [d1, d2, d3] => { results := [.lit (.bool true)], args := [d1, d2, d3] }
  | _ => none }
def kindOrderRow : OpenClaim := { program := "ytgoecnhkmfnenaa", sum := "c61f39f8499020d61e203c670b32410d2bf441318dc4c3da414511ef69fb7ccb", func := "provost/provostlaw22.KindOrder", spec := "kindOrder", inPlace := ["internal/bytealg.IndexByteString"], unfollowed := true, recurses := true, apart := false }
def KindOrderSaid : Prop := kindOrderRow.holds Try.pinned (OpenSpec.ofChange kindOrderSpec)

/-- ITS FALSE NEIGHBOUR: 'it returns false'. Refute it at one input. -/
def kindOrderWrong : ChangeSpec := { name := "kindOrder", fn := fun _ => fun
  | [d1, d2, d3] => { results := [.lit (.bool false)], args := [d1, d2, d3] }
  | _ => none }
def KindOrderWrongFalsely : Prop := kindOrderRow.holds Try.pinned (OpenSpec.ofChange kindOrderWrong)

/-- 'provostlaw22.KindNames': WHATEVER THE INPUT: true; the input reads as it did. -/
def kindNamesSpec : ChangeSpec := { name := "kindNames", fn := fun _ => fun
  | [] => { results := [.lit (.bool true)], args := [] }
  | _ => none }
def kindNamesRow : OpenClaim := { program := "ytgoecnhkmfnenaa", sum := "c61f39f8499020d61e203c670b32410d2bf441318dc4c3da414511ef69fb7ccb", func := "provost/provostlaw22.KindNames", spec := "kindNames", unfollowed := true, recurses := true, apart := false }
def KindNamesSaid : Prop := kindNamesRow.holds Try.pinned (OpenSpec.ofChange kindNamesSpec)

/-- ITS FALSE NEIGHBOUR: 'it returns false'. Refute it at one input. -/
def kindNamesWrong : ChangeSpec := { name := "kindNames", fn := fun _ => fun
  | [] => { results := [.lit (.bool false)], args := [] }
  | _ => none }
def KindNamesWrongFalsely : Prop := kindNamesRow.holds Try.pinned (OpenSpec.ofChange kindNamesWrong)

/-- 'provostlaw22.KindTells': WHATEVER THE INPUT: true; the input reads as it did. -/
def kindTellsSpec : ChangeSpec := { name := "kindTells", fn := fun _ => fun
  | [d1, d2, d3, d4, d5, d6] => { results := [.lit (.bool true)], args := [d1, d2, d3, d4, d5, d6] }
  | _ => none }
def kindTellsRow : OpenClaim := { program := "ytgoecnhkmfnenaa", sum := "c61f39f8499020d61e203c670b32410d2bf441318dc4c3da414511ef69fb7ccb", func := "provost/provostlaw22.KindTells", spec := "kindTells", unfollowed := true, recurses := true, apart := false }
def KindTellsSaid : Prop := kindTellsRow.holds Try.pinned (OpenSpec.ofChange kindTellsSpec)

/-- ITS FALSE NEIGHBOUR: 'it returns false'. Refute it at one input. -/
def kindTellsWrong : ChangeSpec := { name := "kindTells", fn := fun _ => fun
  | [d1, d2, d3, d4, d5, d6] => { results := [.lit (.bool false)], args := [d1, d2, d3, d4, d5, d6] }
  | _ => none }
def KindTellsWrongFalsely : Prop := kindTellsRow.holds Try.pinned (OpenSpec.ofChange kindTellsWrong)

/- THE SECOND FORM. 'bulk': how many values and letters a reading holds, each counted each time it is reached (what is shared counts as often as it is met; a slice's spare places count too). A statement '..UptoSaid' is the law's where the arguments, and the package variables that the reading takes, are together of bulk at most 1048576: NARROWER than '..Said'. Prove '..Said' where nothing that the law and all that it calls make is longer than what came in: it says more and counts as full. Else prove '..UptoSaid'. A law counts once. -/
mutual
def uptoBulk {H : Type} : DataW H → Nat
  | .lit (.string bytes) => bytes.length + 1
  | .lit _ => 1
  | .nil => 1
  | .ptr d => uptoBulk d + 1
  | .slice elems spare => uptoBulkAll elems + uptoBulkAll spare + 1
  | .agg parts => uptoBulkAll parts + 1
  | .iface _ d => uptoBulk d + 1
  | .map entries => uptoBulkEntries entries + 1
  | .held _ => 1
def uptoBulkAll {H : Type} : List (DataW H) → Nat
  | [] => 0
  | d :: r => uptoBulk d + uptoBulkAll r
def uptoBulkEntries {H : Type} : List (Lit × DataW H) → Nat
  | [] => 0
  | x :: r => uptoBulkEntry x + uptoBulkEntries r
def uptoBulkEntry {H : Type} : Lit × DataW H → Nat
  | (.string bytes, d) => bytes.length + uptoBulk d + 1
  | (_, d) => uptoBulk d + 1
 end
def uptoSmall : (H : Type) → List (DataW H) → Bool := fun _ ds => decide (uptoBulkAll ds ≤ 1048576)
def OpenSpec.upto (s : _root_.Go.ChangeSpec) : _root_.Go.OpenSpec := { _root_.Go.OpenSpec.ofChange s with cond := some uptoSmall }

/-- 'provostlaw22.KindWraps', WHERE WHAT IT READS IS OF BULK AT MOST 1048576: true; the input reads as it did. -/
def kindWrapsUptoRow : OpenClaim := { program := "ytgoecnhkmfnenaa", sum := "c61f39f8499020d61e203c670b32410d2bf441318dc4c3da414511ef69fb7ccb", func := "provost/provostlaw22.KindWraps", spec := "kindWraps", unfollowed := true, recurses := true, apart := false, narrowed := true }
def KindWrapsUptoSaid : Prop := kindWrapsUptoRow.holds Try.pinned (OpenSpec.upto kindWrapsSpec)

/-- 'provostlaw22.KindUses', WHERE WHAT IT READS IS OF BULK AT MOST 1048576: true; the input reads as it did. -/
def kindUsesUptoRow : OpenClaim := { program := "ytgoecnhkmfnenaa", sum := "c61f39f8499020d61e203c670b32410d2bf441318dc4c3da414511ef69fb7ccb", func := "provost/provostlaw22.KindUses", spec := "kindUses", unfollowed := true, recurses := true, apart := false, narrowed := true }
def KindUsesUptoSaid : Prop := kindUsesUptoRow.holds Try.pinned (OpenSpec.upto kindUsesSpec)

/-- 'provostlaw22.KindOrder', WHERE WHAT IT READS IS OF BULK AT MOST 1048576: true; the input reads as it did. -/
def kindOrderUptoRow : OpenClaim := { program := "ytgoecnhkmfnenaa", sum := "c61f39f8499020d61e203c670b32410d2bf441318dc4c3da414511ef69fb7ccb", func := "provost/provostlaw22.KindOrder", spec := "kindOrder", inPlace := ["internal/bytealg.IndexByteString"], unfollowed := true, recurses := true, apart := false, narrowed := true }
def KindOrderUptoSaid : Prop := kindOrderUptoRow.holds Try.pinned (OpenSpec.upto kindOrderSpec)

/-- 'provostlaw22.KindNames', WHERE WHAT IT READS IS OF BULK AT MOST 1048576: true; the input reads as it did. -/
def kindNamesUptoRow : OpenClaim := { program := "ytgoecnhkmfnenaa", sum := "c61f39f8499020d61e203c670b32410d2bf441318dc4c3da414511ef69fb7ccb", func := "provost/provostlaw22.KindNames", spec := "kindNames", unfollowed := true, recurses := true, apart := false, narrowed := true }
def KindNamesUptoSaid : Prop := kindNamesUptoRow.holds Try.pinned (OpenSpec.upto kindNamesSpec)

/-- 'provostlaw22.KindTells', WHERE WHAT IT READS IS OF BULK AT MOST 1048576: true; the input reads as it did. -/
def kindTellsUptoRow : OpenClaim := { program := "ytgoecnhkmfnenaa", sum := "c61f39f8499020d61e203c670b32410d2bf441318dc4c3da414511ef69fb7ccb", func := "provost/provostlaw22.KindTells", spec := "kindTells", unfollowed := true, recurses := true, apart := false, narrowed := true }
def KindTellsUptoSaid : Prop := kindTellsUptoRow.holds Try.pinned (OpenSpec.upto kindTellsSpec)

end Rows
end Go.Proofs.Ytgoecnhkmfnenaa
