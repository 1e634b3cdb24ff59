/-
  No cell of these rows narrows 'for every input' (looked for: loops, veiled, ifaces, maps, wideKeys, modest, calm, conditions, laid).
  DERIVED. THE GIVEN ROWS OF THIS SEAT. 4 by the template 'for every input the law returns true; each argument reads behind the call as it read before'; 0 by the template 'total and deterministic' (their statements: YtbigpcpifbjkfaaTotals.lean).
  GIVEN WITH THE SEED: the statements are not yours to turn. If you find one false, say at which input.
  Laid BY PROGRAM, IN A SANDBOX (cutbox-rows.mjs): the forced cells as the released guide's own fill.sh prints them over the translation c3dece4be25e43b5… (all of the seat's roots in one cut). By AI agents, Wed Nov 11 2026. No macro, syntax, notation, axiom, sorry.
-/
import Derived.Test.YtbigpcpifbjkfaaChecked
import GoSem.Claim
import GoSem.ClaimJoined
import GoSem.ClaimMapViews
import Derived.JoinedTies
import Derived.KernelRfl
namespace Go.Proofs.Ytbigpcpifbjkfaa
/- THE CELL 'sum', in the pinned program and in every row, IS THE sha256 OF THE DUMP (.gsa) THAT YtbigpcpifbjkfaaProg.lean LOADS. Nothing in Lean hashes anything: it is a label: what it is worth is what the hold of that sum in a sandbox is worth. -/
noncomputable def Try.pinned : Pinned := { name := "ytbigpcpifbjkfaa", sum := "c3dece4be25e43b54e4c338bd9aacd505326427a77772125fd478e88e9f42990", checked := Try.checked }
namespace Rows
def none {H : Type} : Left H := { results := [], args := [] }

/-- 'provostlaw13.UuidOrder': WHATEVER THE INPUT: true; the input reads as it did. -/
def uuidOrderSpec : ChangeSpec := { name := "uuidOrder", fn := fun _ => fun
  | [d1, d2, d3] => { results := [.lit (.bool true)], args := [d1, d2, d3] }
  | _ => none }
def uuidOrderRow : OpenClaim := { program := "ytbigpcpifbjkfaa", sum := "c3dece4be25e43b54e4c338bd9aacd505326427a77772125fd478e88e9f42990", func := "provost/provostlaw13.UuidOrder", spec := "uuidOrder", inPlace := ["internal/bytealg.IndexByteString", "internal/bytealg.IndexString", "internal/bytealg.Compare"], named := ["internal/bytealg.MaxLen"], apart := false }
def UuidOrderSaid : Prop := uuidOrderRow.holds Try.pinned (OpenSpec.ofChange uuidOrderSpec)

/-- ITS FALSE NEIGHBOUR: 'it returns false'. Refute it at one input. -/
def uuidOrderWrong : ChangeSpec := { name := "uuidOrder", fn := fun _ => fun
  | [d1, d2, d3] => { results := [.lit (.bool false)], args := [d1, d2, d3] }
  | _ => none }
def UuidOrderWrongFalsely : Prop := uuidOrderRow.holds Try.pinned (OpenSpec.ofChange uuidOrderWrong)

/-- 'provostlaw13.UuidNames': WHATEVER THE INPUT: true; the input reads as it did. -/
def uuidNamesSpec : ChangeSpec := { name := "uuidNames", fn := fun _ => fun
  | [] => { results := [.lit (.bool true)], args := [] }
  | _ => none }
def uuidNamesRow : OpenClaim := { program := "ytbigpcpifbjkfaa", sum := "c3dece4be25e43b54e4c338bd9aacd505326427a77772125fd478e88e9f42990", func := "provost/provostlaw13.UuidNames", spec := "uuidNames", inPlace := ["internal/bytealg.IndexByteString", "internal/bytealg.IndexString"], named := ["internal/bytealg.MaxLen"], apart := false }
def UuidNamesSaid : Prop := uuidNamesRow.holds Try.pinned (OpenSpec.ofChange uuidNamesSpec)

/-- ITS FALSE NEIGHBOUR: 'it returns false'. Refute it at one input. -/
def uuidNamesWrong : ChangeSpec := { name := "uuidNames", fn := fun _ => fun
  | [] => { results := [.lit (.bool false)], args := [] }
  | _ => none }
def UuidNamesWrongFalsely : Prop := uuidNamesRow.holds Try.pinned (OpenSpec.ofChange uuidNamesWrong)

/-- 'provostlaw13.UuidBack': WHATEVER THE INPUT: true; the input reads as it did. -/
def uuidBackSpec : ChangeSpec := { name := "uuidBack", fn := fun _ => fun
  | [d1, d2] => { results := [.lit (.bool true)], args := [d1, d2] }
  | _ => none }
def uuidBackRow : OpenClaim := { program := "ytbigpcpifbjkfaa", sum := "c3dece4be25e43b54e4c338bd9aacd505326427a77772125fd478e88e9f42990", func := "provost/provostlaw13.UuidBack", spec := "uuidBack", inPlace := ["internal/bytealg.IndexByteString", "internal/bytealg.IndexString"], named := ["internal/bytealg.MaxLen"], apart := false }
def UuidBackSaid : Prop := uuidBackRow.holds Try.pinned (OpenSpec.ofChange uuidBackSpec)

/-- ITS FALSE NEIGHBOUR: 'it returns false'. Refute it at one input. -/
def uuidBackWrong : ChangeSpec := { name := "uuidBack", fn := fun _ => fun
  | [d1, d2] => { results := [.lit (.bool false)], args := [d1, d2] }
  | _ => none }
def UuidBackWrongFalsely : Prop := uuidBackRow.holds Try.pinned (OpenSpec.ofChange uuidBackWrong)

/-- 'provostlaw13.UuidTells': WHATEVER THE INPUT: true; the input reads as it did. -/
def uuidTellsSpec : ChangeSpec := { name := "uuidTells", fn := fun _ => fun
  | [d1, d2, d3] => { results := [.lit (.bool true)], args := [d1, d2, d3] }
  | _ => none }
def uuidTellsRow : OpenClaim := { program := "ytbigpcpifbjkfaa", sum := "c3dece4be25e43b54e4c338bd9aacd505326427a77772125fd478e88e9f42990", func := "provost/provostlaw13.UuidTells", spec := "uuidTells", inPlace := ["internal/bytealg.IndexByteString", "internal/bytealg.IndexString", "internal/bytealg.Compare"], named := ["internal/bytealg.MaxLen"], apart := false }
def UuidTellsSaid : Prop := uuidTellsRow.holds Try.pinned (OpenSpec.ofChange uuidTellsSpec)

/-- ITS FALSE NEIGHBOUR: 'it returns false'. Refute it at one input. -/
def uuidTellsWrong : ChangeSpec := { name := "uuidTells", fn := fun _ => fun
  | [d1, d2, d3] => { results := [.lit (.bool false)], args := [d1, d2, d3] }
  | _ => none }
def UuidTellsWrongFalsely : Prop := uuidTellsRow.holds Try.pinned (OpenSpec.ofChange uuidTellsWrong)

/- THE SECOND FORM. 'bulk': how many values and letters a reading holds, each counted each time it is reached (what is shared counts as often as it is met; a slice's spare places count too). A statement '..UptoSaid' is the law's where the arguments, and the package variables that the reading takes, are together of bulk at most 1048576: NARROWER than '..Said'. Prove '..Said' where nothing that the law and all that it calls make is longer than what came in: it says more and counts as full. Else prove '..UptoSaid'. A law counts once. -/
mutual
def uptoBulk {H : Type} : DataW H → Nat
  | .lit (.string bytes) => bytes.length + 1
  | .lit _ => 1
  | .nil => 1
  | .ptr d => uptoBulk d + 1
  | .slice elems spare => uptoBulkAll elems + uptoBulkAll spare + 1
  | .agg parts => uptoBulkAll parts + 1
  | .iface _ d => uptoBulk d + 1
  | .map entries => uptoBulkEntries entries + 1
  | .held _ => 1
def uptoBulkAll {H : Type} : List (DataW H) → Nat
  | [] => 0
  | d :: r => uptoBulk d + uptoBulkAll r
def uptoBulkEntries {H : Type} : List (Lit × DataW H) → Nat
  | [] => 0
  | x :: r => uptoBulkEntry x + uptoBulkEntries r
def uptoBulkEntry {H : Type} : Lit × DataW H → Nat
  | (.string bytes, d) => bytes.length + uptoBulk d + 1
  | (_, d) => uptoBulk d + 1
 end
def uptoSmall : (H : Type) → List (DataW H) → Bool := fun _ ds => decide (uptoBulkAll ds ≤ 1048576)
def OpenSpec.upto (s : _root_.Go.ChangeSpec) : _root_.Go.OpenSpec := { _root_.Go.OpenSpec.ofChange s with cond := some uptoSmall }

/-- 'provostlaw13.UuidOrder', WHERE WHAT IT READS IS OF BULK AT MOST 1048576: true; the input reads as it did. -/
def uuidOrderUptoRow : OpenClaim := { program := "ytbigpcpifbjkfaa", sum := "c3dece4be25e43b54e4c338bd9aacd505326427a77772125fd478e88e9f42990", func := "provost/provostlaw13.UuidOrder", spec := "uuidOrder", inPlace := ["internal/bytealg.IndexByteString", "internal/bytealg.IndexString", "internal/bytealg.Compare"], named := ["internal/bytealg.MaxLen"], apart := false, narrowed := true }
def UuidOrderUptoSaid : Prop := uuidOrderUptoRow.holds Try.pinned (OpenSpec.upto uuidOrderSpec)

/-- 'provostlaw13.UuidNames', WHERE WHAT IT READS IS OF BULK AT MOST 1048576: true; the input reads as it did. -/
def uuidNamesUptoRow : OpenClaim := { program := "ytbigpcpifbjkfaa", sum := "c3dece4be25e43b54e4c338bd9aacd505326427a77772125fd478e88e9f42990", func := "provost/provostlaw13.UuidNames", spec := "uuidNames", inPlace := ["internal/bytealg.IndexByteString", "internal/bytealg.IndexString"], named := ["internal/bytealg.MaxLen"], apart := false, narrowed := true }
def UuidNamesUptoSaid : Prop := uuidNamesUptoRow.holds Try.pinned (OpenSpec.upto uuidNamesSpec)

/-- 'provostlaw13.UuidBack', WHERE WHAT IT READS IS OF BULK AT MOST 1048576: true; the input reads as it did. -/
def uuidBackUptoRow : OpenClaim := { program := "ytbigpcpifbjkfaa", sum := "c3dece4be25e43b54e4c338bd9aacd505326427a77772125fd478e88e9f42990", func := "provost/provostlaw13.UuidBack", spec := "uuidBack", inPlace := ["internal/bytealg.IndexByteString", "internal/bytealg.IndexString"], named := ["internal/bytealg.MaxLen"], apart := false, narrowed := true }
def UuidBackUptoSaid : Prop := uuidBackUptoRow.holds Try.pinned (OpenSpec.upto uuidBackSpec)

/-- 'provostlaw13.UuidTells', WHERE WHAT IT READS IS OF BULK AT MOST 1048576: true; the input reads as it did. -/
def uuidTellsUptoRow : OpenClaim := { program := "ytbigpcpifbjkfaa", sum := "c3dece4be25e43b54e4c338bd9aacd505326427a77772125fd478e88e9f42990", func := "provost/provostlaw13.UuidTells", spec := "uuidTells", inPlace := ["internal/bytealg.IndexByteString", "internal/bytealg.IndexString", "internal/bytealg.Compare"], named := ["internal/bytealg.MaxLen"], apart := false, narrowed := true }
def UuidTellsUptoSaid : Prop := uuidTellsUptoRow.holds Try.pinned (OpenSpec.upto uuidTellsSpec)

end Rows
end Go.Proofs.Ytbigpcpifbjkfaa
