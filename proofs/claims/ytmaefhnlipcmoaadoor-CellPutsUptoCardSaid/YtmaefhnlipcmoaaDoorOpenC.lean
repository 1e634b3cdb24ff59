/- How cells lie in memory, when they read as data. Conditions: none. -/
import Derived.Test.YtmaefhnlipcmoaaDoorFnS
import Derived.OpenShut
namespace Go.Proofs.YtmaefhnlipcmoaaDoor
open Go.ChangeShapes Go.WideShapes Go.ChangeAt Go.RowKit
theorem pick_list {α : Type} {P : Nat → α → Prop} : ∀ n, (∀ k, k < n → ∃ x, P k x) → ∃ xs : List α, xs.length = n ∧ ∀ k (h : k < xs.length), P k xs[k]
  | 0, _ => ⟨[], rfl, fun k h => by simp at h⟩
  | n + 1, h => by
    obtain ⟨xs, hl, hp⟩ := pick_list n (fun k hk => h k (by omega))
    obtain ⟨x, hx⟩ := h n (by omega)
    refine ⟨xs ++ [x], by simp [hl], fun k hk => ?_⟩
    by_cases hkn : k < xs.length
    · rw [List.getElem_append_left hkn]
      exact hp k hkn
    · rw [List.length_append, List.length_singleton] at hk
      have : k = n := by omega
      subst this
      rw [List.getElem_append_right (by omega)]
      simpa [hl] using hx
theorem rd_cels {w : World} {b off : Nat} {xs : List Cel} (hb : b < w.heap.size) (h : ∀ k (hk : k < xs.length), CelAt w b (off + k * 5) xs[k]) : Rd w w.heap.size (some ⟨b, off, none⟩) (cv xs) := by
  right
  refine ⟨b, off, rfl, hb, fun j hj => ?_⟩
  have hj' := hj
  rw [cv_len] at hj'
  obtain ⟨k, t, ht, rfl⟩ : ∃ k t, t < 5 ∧ j = k * 5 + t := ⟨j / 5, j % 5, by omega, by omega⟩
  have hk : k < xs.length := by omega
  obtain ⟨g0, g1, g2, g3, g4⟩ := cv_get xs k hk
  obtain ⟨c0, c1, c2, c3, c4⟩ := h k hk
  have e : (cv xs)[k * 5 + t]? = some (cv xs)[k * 5 + t] := List.getElem?_eq_getElem hj
  have ht5 : t = 0 ∨ t = 1 ∨ t = 2 ∨ t = 3 ∨ t = 4 := by omega
  rw [← Nat.add_assoc]
  rcases ht5 with rfl | rfl | rfl | rfl | rfl
  · have e' : (cv xs)[k * 5]? = some (cv xs)[k * 5 + 0] := e
    rw [g0] at e'; rw [← e']; exact c0
  · rw [g1] at e; rw [← e]; exact c1
  · rw [g2] at e; rw [← e]; exact c2
  · rw [g3] at e; rw [← e]; exact c3
  · rw [g4] at e; rw [← e]; exact c4
section
variable {H : Type} {enc : TypeId × Value → H} {W : World}
set_option maxRecDepth 100000 in
theorem el_cell {fuel : Nat} {cs : List Value} {x : DataW H × List MemPlace} {b o : Nat} (h : DataW.trod enc Tryd.prog W 0 (fun _ => true) true fuel 45 cs = some x) (hl : cs.length = 5) (hc : ∀ j, j < 5 → W.cell? ⟨b, o + j, none⟩ = cs[j]?) : ∃ c : Cel, CelW maxLen c ∧ CelAt W b o c := by
  obtain ⟨xs, m, _, _, _, hxl, hf⟩ := DataW.trod_struct Tryd.underlying45 h
  simp only [List.size_toArray, List.length_cons, List.length_nil] at hxl
  match xs, hxl with
  | [x0, x1, x2, x3, x4], _ =>
  match cs, hl with
  | [c0, c1, c2, c3, c4], _ =>
  have g0 := hf 0 _ rfl
  have g1 := hf 1 _ rfl
  have g2 := hf 2 _ rfl
  have g3 := hf 3 _ rfl
  have g4 := hf 4 _ rfl
  change DataW.trod _ _ _ _ _ _ _ 5 (List.take (Tryd.prog.cellsOf 5) [c0, c1, c2, c3, c4]) = some x0 at g0
  rw [show Tryd.prog.cellsOf 5 = 1 by kernel_rfl] at g0
  change DataW.trod _ _ _ _ _ _ _ 9 (List.take (Tryd.prog.cellsOf 9) [c1, c2, c3, c4]) = some x1 at g1
  rw [show Tryd.prog.cellsOf 9 = 1 by kernel_rfl] at g1
  change DataW.trod _ _ _ _ _ _ _ 9 (List.take (Tryd.prog.cellsOf 9) [c2, c3, c4]) = some x2 at g2
  rw [show Tryd.prog.cellsOf 9 = 1 by kernel_rfl] at g2
  change DataW.trod _ _ _ _ _ _ _ 2 (List.take (Tryd.prog.cellsOf 2) [c3, c4]) = some x3 at g3
  rw [show Tryd.prog.cellsOf 2 = 1 by kernel_rfl] at g3
  change DataW.trod _ _ _ _ _ _ _ 3 (List.take (Tryd.prog.cellsOf 3) [c4]) = some x4 at g4
  rw [show Tryd.prog.cellsOf 3 = 1 by kernel_rfl] at g4
  obtain ⟨k0, e0, _, w0⟩ := DataW.trod_int (k := .u8) (by kernel_rfl) g0
  obtain ⟨s1, e1, _, w1⟩ := DataW.trod_string Tryd.underlying9 g1
  obtain ⟨s2, e2, _, w2⟩ := DataW.trod_string Tryd.underlying9 g2
  obtain ⟨k3, e3, _, w3⟩ := DataW.trod_int (k := .i64) (by kernel_rfl) g3
  obtain ⟨k4, e4, _, w4⟩ := DataW.trod_int (k := .i64) (by kernel_rfl) g4
  simp at e0 e1 e2 e3 e4
  subst e0
  subst e1
  subst e2
  subst e3
  subst e4
  have d0 := hc 0 (by omega)
  have d1 := hc 1 (by omega)
  have d2 := hc 2 (by omega)
  have d3 := hc 3 (by omega)
  have d4 := hc 4 (by omega)
  have b0 := bounds_u8 w0
  have b3 := bounds_i64 w3
  have b4 := bounds_i64 w4
  refine ⟨⟨k0.toNat, s1, s2, k3, k4⟩, ⟨by show k0.toNat ≤ 255; omega, w1, w2, b3.1, by have := b3.2; show k3 ≤ _; omega, b4.1, by have := b4.2; show k4 ≤ _; omega⟩, ?_, d1, d2, d3, d4⟩
  rw [show (((⟨k0.toNat, s1, s2, k3, k4⟩ : Cel).kind : Nat) : Int) = k0 by show ((k0.toNat : Nat) : Int) = k0; omega]
  exact d0
/-- cells that read as data -/
def Cells (W : World) (v : Value) (xs : List Cel) : Prop := ∃ A c, v = .slice A xs.length c ∧ xs.length ≤ c ∧ c ≤ maxLen ∧ Rd W W.heap.size A (cv xs) ∧ ∀ c ∈ xs, CelW maxLen c
set_option maxRecDepth 100000 in
theorem open_cells {fuel : Nat} {cs : List Value} {x : DataW H × List MemPlace} (h : DataW.trod enc Tryd.prog W 0 (fun _ => true) true fuel 25 cs = some x) : ∃ v xs, cs = [v] ∧ Cells W v xs := by
  have hsz : Tryd.prog.cellsOf 45 = 5 := by kernel_rfl
  rcases DataW.trod_slice Tryd.underlying25 h with ⟨rfl, _⟩ | ⟨a, len, cap, elems, rest, n, _, rfl, _, hb, hl, hm, hlen, hel, _, _⟩
  · exact ⟨_, [], rfl, none, 0, rfl, Nat.le_refl _, by unfold maxLen; omega, Rd.nil, fun c hc => by cases hc⟩
  · have each : ∀ i, i < len → ∃ (f : Nat) (cs' : List Value) (y : DataW H × List MemPlace), DataW.trod enc Tryd.prog W 0 (fun _ => true) true f 45 cs' = some y ∧ cs'.length = 5 ∧ (∀ j, j < 5 → W.cell? ((a.add (i * 5)).add j) = cs'[j]?) ∧ (a.add (i * 5)).block < W.heap.size := by
      intro i hi
      have h1 := hel i hi
      rw [List.getElem?_eq_getElem (by omega), hsz, Option.bind_eq_some_iff] at h1
      obtain ⟨cs', hcs, hy'⟩ := h1
      obtain ⟨_, hcn, hc⟩ := World.cells?_some hcs
      exact ⟨_, cs', _, hy', hcn, hc, World.cells?_block hcs (by omega)⟩
    by_cases hz : len = 0
    · subst hz
      exact ⟨_, [], rfl, some a, cap, rfl, Nat.zero_le _, hm, Rd.nil, fun c hc => by cases hc⟩
    · obtain ⟨b, off, spot⟩ := a
      have hspot : spot = none := by
        obtain ⟨f, cs', y, _, hn, hc, _⟩ := each 0 (by omega)
        have h1 := hc 0 (by omega)
        obtain ⟨v, hv⟩ : ∃ v, cs'[0]? = some v := ⟨_, List.getElem?_eq_getElem (by omega)⟩
        rw [hv] at h1
        simpa [Addr.add] using World.cell?_spot h1
      subst hspot
      obtain ⟨xs, hxl, hp⟩ := pick_list (P := fun k (c : Cel) => CelW maxLen c ∧ CelAt W b (off + k * 5) c) len (fun k hk => by
        obtain ⟨f, cs', y, hy, hn, hc, hbl⟩ := each k hk
        refine el_cell hy hn fun j hj => ?_
        have := hc j hj
        rw [add_plain, add_plain] at this
        exact this)
      refine ⟨_, xs, rfl, some ⟨b, off, none⟩, cap, by rw [hxl], by omega, hm, rd_cels ?_ (fun k hk => (hp k hk).2), fun c hc => ?_⟩
      · obtain ⟨_, _, _, _, _, _, hbl⟩ := each 0 (by omega)
        simpa [Addr.add] using hbl
      · obtain ⟨k, hk, rfl⟩ := List.getElem_of_mem hc
        exact (hp k hk).1
set_option maxRecDepth 100000 in
theorem open_cellsT {r : Reach} {base : Nat} {v : Value} {d : DataW H} {p : List MemPlace} (hv : Value.okWide Tryd.prog W r base 25 v) (h : DataW.Trod enc Tryd.prog W 0 (fun _ => true) true 25 v d p) :
    ∃ (xs : List Cel) (A : Option Addr) (c : Nat), v = .slice A xs.length c ∧ xs.length ≤ c ∧ c ≤ maxLen ∧ Rd W W.heap.size A (cv xs) ∧ ∀ c ∈ xs, CelW maxLen c := by
  have hs : ∃ A n c, v = .slice A n c := by
    simp only [Value.okWide, Tryd.underlying25, Cell.okWide] at hv
    cases v <;> simp_all [Cell.ok]
  obtain ⟨a0, len, cap, rfl⟩ := hs
  obtain ⟨fuel, hf⟩ := h
  obtain ⟨v', xs, e, s⟩ := open_cells hf
  simp [Value.cells] at e
  subst e
  obtain ⟨A, c, e2, h1, h2, h3, h4⟩ := s
  exact ⟨xs, A, c, e2, h1, h2, h3, h4⟩
end
end Go.Proofs.YtmaefhnlipcmoaaDoor
