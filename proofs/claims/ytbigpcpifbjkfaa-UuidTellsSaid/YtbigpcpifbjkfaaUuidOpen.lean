/- How an array of sixteen bytes that was handed in reads. Conditions: none. -/
import Derived.Test.YtbigpcpifbjkfaaUuidPure
import Derived.OpenShut
namespace Go.Proofs.Ytbigpcpifbjkfaa
open Go.ChangeShapes Go.WideShapes Go.ChangeAt Go.RowKit
section
variable {H : Type} {enc : TypeId × Value → H} {W : World}
theorem open_arr16 {r : Reach} {b0 : Nat} {v : Value} {d : DataW H} {p : List MemPlace} (hv : Value.okWide Try.prog W r b0 22 v)
    (h : DataW.Trod enc Try.prog W 0 (fun _ => true) true 22 v d p) :
    ∃ xs : List Int, v = .agg (av xs) ∧ xs.length = 16 ∧ ∀ x ∈ xs, 0 ≤ x ∧ x < 256 := by
  have hc : ∃ cs, v = .agg cs ∧ cs.size = 16 := by
    simp only [Value.okWide, Try.underlying22] at hv
    obtain ⟨cs, h1, h2, _⟩ := hv
    exact ⟨cs, h1, by rw [h2]; kernel_rfl⟩
  obtain ⟨cs, rfl, hcs⟩ := hc
  obtain ⟨fuel, hf⟩ := h
  obtain ⟨ys, m, _, _, _, hyl, hel⟩ := DataW.trod_array Try.underlying22 hf
  have each : ∀ i : Nat, i < 16 → ∃ k : Int, cs[i]? = some (.int .u8 k) ∧ 0 ≤ k ∧ k < 256 := by
    intro i hi
    have h1 := hel i hi
    rw [show Try.prog.cellsOf 5 = 1 by kernel_rfl, Nat.mul_one, List.getElem?_eq_getElem (show i < ys.length by omega)] at h1
    obtain ⟨k, hk, _, hw⟩ := DataW.trod_int Try.underlying5 h1
    refine ⟨k, ?_, ?_⟩
    · have := congrArg (fun l => l[0]?) hk
      simpa [Value.cells] using this
    · simp [Lit.wf] at hw
      have q0 : IntKind.u8.min = 0 := rfl
      have q1 : IntKind.u8.max = 255 := rfl
      omega
  obtain ⟨g, hg⟩ : ∃ g : Nat → Int, ∀ i, i < 16 → cs[i]? = some (.int .u8 (g i)) ∧ 0 ≤ g i ∧ g i < 256 :=
    ⟨fun i => if h : i < 16 then Classical.choose (each i h) else 0, fun i hi => by simp only [hi, dif_pos]; exact Classical.choose_spec (each i hi)⟩
  refine ⟨(List.range 16).map g, ?_, by simp, ?_⟩
  · congr 1
    apply Array.ext
    · simp [av, hcs]
    · intro i h1 h2
      have hi : i < 16 := by omega
      have := (hg i hi).1
      rw [Array.getElem?_eq_getElem h1] at this
      simp only [Option.some.injEq] at this
      rw [this]
      simp [av]
  · intro x hx
    simp only [List.mem_map, List.mem_range] at hx
    obtain ⟨i, hi, rfl⟩ := hx
    exact (hg i hi).2
end
end Go.Proofs.Ytbigpcpifbjkfaa
