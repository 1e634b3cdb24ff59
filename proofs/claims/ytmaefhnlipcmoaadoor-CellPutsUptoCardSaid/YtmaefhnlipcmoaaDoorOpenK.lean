/- How values of cells lie in memory, when they read as data. Conditions: none. -/
import Derived.Test.YtmaefhnlipcmoaaDoorOpenC
import Derived.Test.YtmaefhnlipcmoaaDoorPartsL
namespace Go.Proofs.YtmaefhnlipcmoaaDoor
open Go.ChangeShapes Go.WideShapes Go.ChangeAt Go.RowKit
section
variable {H : Type} {enc : TypeId × Value → H} {W : World}
set_option maxRecDepth 100000 in
theorem open_csets {fuel : Nat} {cs : List Value} {x : DataW H × List MemPlace} (h : DataW.trod enc Tryd.prog W 0 (fun _ => true) true fuel 23 cs = some x) :
    ∃ v, cs = [v] ∧ ∃ (A : Option Addr) (c : Nat) (xss : List (List Cel)), v = .slice A xss.length c ∧ xss.length ≤ maxLen ∧ Sets W W.heap.size A xss ∧ (∀ l ∈ xss, l.length ≤ maxLen) ∧ ∀ l ∈ xss, ∀ c ∈ l, CelW maxLen c := by
  have hsz : Tryd.prog.cellsOf 25 = 1 := by kernel_rfl
  rcases DataW.trod_slice Tryd.underlying23 h with ⟨rfl, _⟩ | ⟨a, len, cap, elems, rest, n, _, rfl, _, hb, hl, hm, hlen, hel, _, _⟩
  · exact ⟨_, rfl, none, 0, [], rfl, by simp, .inl rfl, fun l hl => (by cases hl), fun l hl => (by cases hl)⟩
  · have each : ∀ i, i < len → ∃ (v : Value) (xs : List Cel), Cells W v xs ∧ W.cell? (a.add i) = some v ∧ (a.add i).block < W.heap.size := by
      intro i hi
      have h1 := hel i hi
      rw [List.getElem?_eq_getElem (by omega), hsz, Option.bind_eq_some_iff] at h1
      obtain ⟨cs', hcs, hy'⟩ := h1
      obtain ⟨_, hcn, hc⟩ := World.cells?_some hcs
      obtain ⟨v, xs, rfl, hs⟩ := open_cells hy'
      refine ⟨v, xs, hs, ?_, ?_⟩
      · have := hc 0 (by omega)
        rw [Nat.mul_one] at this
        simpa [Addr.add] using this
      · have := World.cells?_block hcs (by omega)
        rw [Nat.mul_one] at this
        exact this
    by_cases hz : len = 0
    · subst hz
      exact ⟨_, rfl, some a, cap, [], rfl, by simp, .inl rfl, fun l hl => (by cases hl), fun l hl => (by cases hl)⟩
    · obtain ⟨b, off, spot⟩ := a
      have hspot : spot = none := by
        obtain ⟨v, xs, _, hc, _⟩ := each 0 (by omega)
        simpa [Addr.add] using World.cell?_spot hc
      subst hspot
      obtain ⟨xss, hxl, hp⟩ := pick_list (P := fun k (l : List Cel) => (∃ A' c', W.cell? ⟨b, off + k, none⟩ = some (.slice A' l.length c') ∧ Rd W W.heap.size A' (cv l)) ∧ l.length ≤ maxLen ∧ ∀ c ∈ l, CelW maxLen c) len (fun k hk => by
        obtain ⟨v, xs, ⟨A', c', rfl, g1, g2, g3, g4⟩, hc, _⟩ := each k hk
        rw [add_plain] at hc
        exact ⟨xs, ⟨A', c', hc, g3⟩, by omega, g4⟩)
      have hbl : b < W.heap.size := by
        obtain ⟨_, _, _, _, h0⟩ := each 0 (by omega)
        simpa [Addr.add] using h0
      refine ⟨_, rfl, some ⟨b, off, none⟩, cap, xss, by rw [hxl], by omega, .inr ⟨b, off, rfl, hbl, fun k hk => (hp k hk).1⟩, fun l hl => ?_, fun l hl => ?_⟩
      · obtain ⟨k, hk, rfl⟩ := List.getElem_of_mem hl
        exact (hp k hk).2.1
      · obtain ⟨k, hk, rfl⟩ := List.getElem_of_mem hl
        exact (hp k hk).2.2
set_option maxRecDepth 100000 in
theorem open_csetsT {r : Reach} {base : Nat} {v : Value} {d : DataW H} {p : List MemPlace} (hv : Value.okWide Tryd.prog W r base 23 v) (h : DataW.Trod enc Tryd.prog W 0 (fun _ => true) true 23 v d p) :
    ∃ (xss : List (List Cel)) (A : Option Addr) (c : Nat), v = .slice A xss.length c ∧ xss.length ≤ maxLen ∧ Sets W W.heap.size A xss ∧ (∀ l ∈ xss, l.length ≤ maxLen) ∧ ∀ l ∈ xss, ∀ c ∈ l, CelW maxLen c := by
  have hs : ∃ A n c, v = .slice A n c := by
    simp only [Value.okWide, Tryd.underlying23, Cell.okWide] at hv
    cases v <;> simp_all [Cell.ok]
  obtain ⟨a0, len, cap, rfl⟩ := hs
  obtain ⟨fuel, hf⟩ := h
  obtain ⟨v', e, A, c, xss, e2, h1, h2, h3, h4⟩ := open_csets hf
  simp [Value.cells] at e
  subst e
  exact ⟨xss, A, c, e2, h1, h2, h3, h4⟩
end
end Go.Proofs.YtmaefhnlipcmoaaDoor
