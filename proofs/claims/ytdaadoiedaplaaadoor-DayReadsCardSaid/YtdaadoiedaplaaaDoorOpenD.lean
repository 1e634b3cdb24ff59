/- What a DateTime among the inputs reads as. Conditions: none. -/
import Derived.Test.YtdaadoiedaplaaaDoorLive
import Derived.ChangeSame
import Derived.OpenShut
namespace Go.Proofs.YtdaadoiedaplaaaDoor
open Go.ChangeShapes Go.WideShapes Go.ChangeAt Go.RowKit
section
variable {H : Type} {enc : TypeId × Value → H} {W : World}
theorem trod_int' {t : TypeId} {k : IntKind} {fuel : Nat} {cs : List Value} {x : DataW H × List MemPlace} (ht : Tryd.prog.underlying t = some (.int k)) (h : DataW.trod enc Tryd.prog W 0 (fun _ => true) true fuel t cs = some x) : ∃ n, cs = [.int k n] ∧ (Lit.int k n).wf = true := by
  obtain ⟨n, h1, _, h2⟩ := DataW.trod_int ht h
  exact ⟨n, h1, h2⟩
set_option maxRecDepth 100000 in
theorem open_day {r : Reach} {b0 : Nat} {v : Value} {d : DataW H} {p : List MemPlace} (hv : Value.okWide Tryd.prog W r b0 23 v) (h : DataW.Trod enc Tryd.prog W 0 (fun _ => true) true 23 v d p) :
    ∃ s n : Int, v = .agg #[.int .i64 s, .int .i64 n] ∧ (Lit.int .i64 s).wf = true ∧ (Lit.int .i64 n).wf = true := by
  obtain ⟨cs, rfl, _⟩ := okWide_struct Tryd.underlying23 hv
  obtain ⟨fuel, hf⟩ := h
  obtain ⟨y0, y1, m, _, hl, h0, h1⟩ := trod_struct2 Tryd.underlying23 hf
  rw [show Tryd.prog.cellsOf 23 = 2 by kernel_rfl] at hl
  obtain ⟨l⟩ := cs
  simp [Value.cells] at hl h0 h1
  match l, hl with
  | [c0, c1], _ =>
  rw [show Tryd.prog.cellsOf 2 = 1 by kernel_rfl] at h0
  rw [show Tryd.prog.cellsOf 3 = 1 by kernel_rfl] at h1
  obtain ⟨s, e0, w0⟩ := trod_int' Tryd.underlying2 h0
  obtain ⟨n, e1, w1⟩ := trod_int' Tryd.underlying3 h1
  simp at e0 e1
  subst e0 e1
  exact ⟨s, n, rfl, w0, w1⟩
end
end Go.Proofs.YtdaadoiedaplaaaDoor
