/- How cells lie in memory, when they read as data. Conditions: none. How records and tables lie in memory, when they read as data. Conditions: none. How arguments that read as data lie in memory: strings, slices of strings. Conditions: none. -/
import Derived.Test.YtcgioepbooafcaaGreatDoorMFn
import Derived.OpenShut
import Derived.Test.YtcgioepbooafcaaGreatDoorMIn
import Derived.SliceStrings
import Derived.Test.YtcgioepbooafcaaGreatDoorMBase
namespace Go.Proofs.YtcgioepbooafcaaGreatDoor
section
open Go.ChangeShapes Go.WideShapes Go.ChangeAt Go.RowKit
theorem pick_list {α : Type} {P : Nat → α → Prop} : ∀ n, (∀ k, k < n → ∃ x, P k x) → ∃ xs : List α, xs.length = n ∧ ∀ k (h : k < xs.length), P k xs[k]
  | 0, _ => ⟨[], rfl, fun k h => by simp at h⟩
  | n + 1, h => by
    obtain ⟨xs, hl, hp⟩ := pick_list n (fun k hk => h k (by omega))
    obtain ⟨x, hx⟩ := h n (by omega)
    refine ⟨xs ++ [x], by simp [hl], fun k hk => ?_⟩
    by_cases hkn : k < xs.length
    · rw [List.getElem_append_left hkn]
      exact hp k hkn
    · rw [List.length_append, List.length_singleton] at hk
      have : k = n := by omega
      subst this
      rw [List.getElem_append_right (by omega)]
      simpa [hl] using hx
theorem rd_cels {w : World} {b off : Nat} {xs : List Cel} (hb : b < w.heap.size) (h : ∀ k (hk : k < xs.length), CelAt w b (off + k * 5) xs[k]) : Rd w w.heap.size (some ⟨b, off, none⟩) (cv xs) := by
  right
  refine ⟨b, off, rfl, hb, fun j hj => ?_⟩
  have hj' := hj
  rw [cv_len] at hj'
  obtain ⟨k, t, ht, rfl⟩ : ∃ k t, t < 5 ∧ j = k * 5 + t := ⟨j / 5, j % 5, by omega, by omega⟩
  have hk : k < xs.length := by omega
  obtain ⟨g0, g1, g2, g3, g4⟩ := cv_get xs k hk
  obtain ⟨c0, c1, c2, c3, c4⟩ := h k hk
  have e : (cv xs)[k * 5 + t]? = some (cv xs)[k * 5 + t] := List.getElem?_eq_getElem hj
  have ht5 : t = 0 ∨ t = 1 ∨ t = 2 ∨ t = 3 ∨ t = 4 := by omega
  rw [← Nat.add_assoc]
  rcases ht5 with rfl | rfl | rfl | rfl | rfl
  · have e' : (cv xs)[k * 5]? = some (cv xs)[k * 5 + 0] := e
    rw [g0] at e'; rw [← e']; exact c0
  · rw [g1] at e; rw [← e]; exact c1
  · rw [g2] at e; rw [← e]; exact c2
  · rw [g3] at e; rw [← e]; exact c3
  · rw [g4] at e; rw [← e]; exact c4
section
variable {H : Type} {enc : TypeId × Value → H} {W : World}
set_option maxRecDepth 100000 in
theorem el_cell {fuel : Nat} {cs : List Value} {x : DataW H × List MemPlace} {b o : Nat} (h : DataW.trod enc Tryz.prog W 0 (fun _ => true) true fuel 47 cs = some x) (hl : cs.length = 5) (hc : ∀ j, j < 5 → W.cell? ⟨b, o + j, none⟩ = cs[j]?) : ∃ c : Cel, CelW maxLen c ∧ CelAt W b o c := by
  obtain ⟨xs, m, _, _, _, hxl, hf⟩ := DataW.trod_struct Tryz.underlying47 h
  simp only [List.size_toArray, List.length_cons, List.length_nil] at hxl
  match xs, hxl with
  | [x0, x1, x2, x3, x4], _ =>
  match cs, hl with
  | [c0, c1, c2, c3, c4], _ =>
  have g0 := hf 0 _ rfl
  have g1 := hf 1 _ rfl
  have g2 := hf 2 _ rfl
  have g3 := hf 3 _ rfl
  have g4 := hf 4 _ rfl
  change DataW.trod _ _ _ _ _ _ _ 5 (List.take (Tryz.prog.cellsOf 5) [c0, c1, c2, c3, c4]) = some x0 at g0
  rw [show Tryz.prog.cellsOf 5 = 1 by kernel_rfl] at g0
  change DataW.trod _ _ _ _ _ _ _ 9 (List.take (Tryz.prog.cellsOf 9) [c1, c2, c3, c4]) = some x1 at g1
  rw [show Tryz.prog.cellsOf 9 = 1 by kernel_rfl] at g1
  change DataW.trod _ _ _ _ _ _ _ 9 (List.take (Tryz.prog.cellsOf 9) [c2, c3, c4]) = some x2 at g2
  rw [show Tryz.prog.cellsOf 9 = 1 by kernel_rfl] at g2
  change DataW.trod _ _ _ _ _ _ _ 2 (List.take (Tryz.prog.cellsOf 2) [c3, c4]) = some x3 at g3
  rw [show Tryz.prog.cellsOf 2 = 1 by kernel_rfl] at g3
  change DataW.trod _ _ _ _ _ _ _ 3 (List.take (Tryz.prog.cellsOf 3) [c4]) = some x4 at g4
  rw [show Tryz.prog.cellsOf 3 = 1 by kernel_rfl] at g4
  obtain ⟨k0, e0, _, w0⟩ := DataW.trod_int (k := .u8) (by kernel_rfl) g0
  obtain ⟨s1, e1, _, w1⟩ := DataW.trod_string Tryz.underlying9 g1
  obtain ⟨s2, e2, _, w2⟩ := DataW.trod_string Tryz.underlying9 g2
  obtain ⟨k3, e3, _, w3⟩ := DataW.trod_int (k := .i64) (by kernel_rfl) g3
  obtain ⟨k4, e4, _, w4⟩ := DataW.trod_int (k := .i64) (by kernel_rfl) g4
  simp at e0 e1 e2 e3 e4
  subst e0
  subst e1
  subst e2
  subst e3
  subst e4
  have d0 := hc 0 (by omega)
  have d1 := hc 1 (by omega)
  have d2 := hc 2 (by omega)
  have d3 := hc 3 (by omega)
  have d4 := hc 4 (by omega)
  have b0 := bounds_u8 w0
  have b3 := bounds_i64 w3
  have b4 := bounds_i64 w4
  refine ⟨⟨k0.toNat, s1, s2, k3, k4⟩, ⟨by show k0.toNat ≤ 255; omega, w1, w2, b3.1, by have := b3.2; show k3 ≤ _; omega, b4.1, by have := b4.2; show k4 ≤ _; omega⟩, ?_, d1, d2, d3, d4⟩
  rw [show (((⟨k0.toNat, s1, s2, k3, k4⟩ : Cel).kind : Nat) : Int) = k0 by show ((k0.toNat : Nat) : Int) = k0; omega]
  exact d0
/-- cells that read as data -/
def Cells (W : World) (v : Value) (xs : List Cel) : Prop := ∃ A c, v = .slice A xs.length c ∧ xs.length ≤ c ∧ c ≤ maxLen ∧ Rd W W.heap.size A (cv xs) ∧ ∀ c ∈ xs, CelW maxLen c
set_option maxRecDepth 100000 in
theorem open_cells {fuel : Nat} {cs : List Value} {x : DataW H × List MemPlace} (h : DataW.trod enc Tryz.prog W 0 (fun _ => true) true fuel 26 cs = some x) : ∃ v xs, cs = [v] ∧ Cells W v xs := by
  have hsz : Tryz.prog.cellsOf 47 = 5 := by kernel_rfl
  rcases DataW.trod_slice Tryz.underlying26 h with ⟨rfl, _⟩ | ⟨a, len, cap, elems, rest, n, _, rfl, _, hb, hl, hm, hlen, hel, _, _⟩
  · exact ⟨_, [], rfl, none, 0, rfl, Nat.le_refl _, by unfold maxLen; omega, Rd.nil, fun c hc => by cases hc⟩
  · have each : ∀ i, i < len → ∃ (f : Nat) (cs' : List Value) (y : DataW H × List MemPlace), DataW.trod enc Tryz.prog W 0 (fun _ => true) true f 47 cs' = some y ∧ cs'.length = 5 ∧ (∀ j, j < 5 → W.cell? ((a.add (i * 5)).add j) = cs'[j]?) ∧ (a.add (i * 5)).block < W.heap.size := by
      intro i hi
      have h1 := hel i hi
      rw [List.getElem?_eq_getElem (by omega), hsz, Option.bind_eq_some_iff] at h1
      obtain ⟨cs', hcs, hy'⟩ := h1
      obtain ⟨_, hcn, hc⟩ := World.cells?_some hcs
      exact ⟨_, cs', _, hy', hcn, hc, World.cells?_block hcs (by omega)⟩
    by_cases hz : len = 0
    · subst hz
      exact ⟨_, [], rfl, some a, cap, rfl, Nat.zero_le _, hm, Rd.nil, fun c hc => by cases hc⟩
    · obtain ⟨b, off, spot⟩ := a
      have hspot : spot = none := by
        obtain ⟨f, cs', y, _, hn, hc, _⟩ := each 0 (by omega)
        have h1 := hc 0 (by omega)
        obtain ⟨v, hv⟩ : ∃ v, cs'[0]? = some v := ⟨_, List.getElem?_eq_getElem (by omega)⟩
        rw [hv] at h1
        simpa [Addr.add] using World.cell?_spot h1
      subst hspot
      obtain ⟨xs, hxl, hp⟩ := pick_list (P := fun k (c : Cel) => CelW maxLen c ∧ CelAt W b (off + k * 5) c) len (fun k hk => by
        obtain ⟨f, cs', y, hy, hn, hc, hbl⟩ := each k hk
        refine el_cell hy hn fun j hj => ?_
        have := hc j hj
        rw [add_plain, add_plain] at this
        exact this)
      refine ⟨_, xs, rfl, some ⟨b, off, none⟩, cap, by rw [hxl], by omega, hm, rd_cels ?_ (fun k hk => (hp k hk).2), fun c hc => ?_⟩
      · obtain ⟨_, _, _, _, _, _, hbl⟩ := each 0 (by omega)
        simpa [Addr.add] using hbl
      · obtain ⟨k, hk, rfl⟩ := List.getElem_of_mem hc
        exact (hp k hk).1
set_option maxRecDepth 100000 in
theorem open_cellsT {r : Reach} {base : Nat} {v : Value} {d : DataW H} {p : List MemPlace} (hv : Value.okWide Tryz.prog W r base 26 v) (h : DataW.Trod enc Tryz.prog W 0 (fun _ => true) true 26 v d p) :
    ∃ (xs : List Cel) (A : Option Addr) (c : Nat), v = .slice A xs.length c ∧ xs.length ≤ c ∧ c ≤ maxLen ∧ Rd W W.heap.size A (cv xs) ∧ ∀ c ∈ xs, CelW maxLen c := by
  have hs : ∃ A n c, v = .slice A n c := by
    simp only [Value.okWide, Tryz.underlying26, Cell.okWide] at hv
    cases v <;> simp_all [Cell.ok]
  obtain ⟨a0, len, cap, rfl⟩ := hs
  obtain ⟨fuel, hf⟩ := h
  obtain ⟨v', xs, e, s⟩ := open_cells hf
  simp [Value.cells] at e
  subst e
  obtain ⟨A, c, e2, h1, h2, h3, h4⟩ := s
  exact ⟨xs, A, c, e2, h1, h2, h3, h4⟩
end
end
section
open Go.ChangeShapes Go.WideShapes Go.ChangeAt Go.RowKit
section
variable {H : Type} {enc : TypeId × Value → H} {W : World}
theorem open_strsF {fuel : Nat} {cs : List Value} {x : DataW H × List MemPlace} (h : DataW.trod enc Tryz.prog W 0 (fun _ => true) true fuel 22 cs = some x) :
    ∃ (A : Option Addr) (c : Nat) (xs : List ByteArray), cs = [.slice A xs.length c] ∧ Rd W W.heap.size A (sv xs) ∧ xs.length ≤ maxLen ∧ ∀ s ∈ xs, s.size ≤ maxLen := by
  rcases open_strings Tryz.underlying22 Tryz.underlying9 (by kernel_rfl) h with ⟨hcs, hx⟩ | ⟨a, len, cap, ss, hcs, _, hl, hm, hz, hx, hcell, hws⟩
  · exact ⟨none, 0, [], hcs, Rd.nil, by simp, fun s hs => (by cases hs)⟩
  · simp only [if_true] at hz
    have hlen : (ss.take len).length = len := by rw [List.length_take]; omega
    refine ⟨some a, cap, ss.take len, by rw [hlen]; exact hcs, ?_, by omega, fun s hs => hws s (List.mem_of_mem_take hs)⟩
    by_cases h0 : len = 0
    · left
      subst h0
      simp [sv]
    · obtain ⟨b, off, spot⟩ := a
      have hspot : spot = none := by simpa [Addr.add] using World.cell?_spot (hcell 0 (by omega))
      subst hspot
      have hb0 := World.block_lt_of_cell? W _ (hcell 0 (by omega))
      refine .inr ⟨b, off, rfl, by simpa [Addr.add] using hb0, fun j hj => ?_⟩
      have hj' : j < len := by rw [sv_len, hlen] at hj; exact hj
      have := hcell j (by omega)
      rw [add_plain] at this
      rw [this]
      simp [sv, List.getD, List.getElem?_eq_getElem (show j < ss.length by omega)]
set_option maxRecDepth 100000 in
theorem trod_rec {fuel : Nat} {cs : List Value} {x : DataW H × List MemPlace} (h : DataW.trod enc Tryz.prog W 0 (fun _ => true) true fuel 28 cs = some x) (hl : cs.length = 2) :
    ∃ (r : RecC) (A : Option Addr) (c : Nat), cs = [.string r.id, .slice A r.data.length c] ∧ InRec W r A c := by
  obtain ⟨xs, m, _, _, _, hxl, hf⟩ := DataW.trod_struct Tryz.underlying28 h
  simp only [List.size_toArray, List.length_cons, List.length_nil] at hxl
  match xs, hxl with
  | [x0, x1], _ =>
  match cs, hl with
  | [c0, c1], _ =>
  have g0 := hf 0 _ rfl
  have g1 := hf 1 _ rfl
  change DataW.trod _ _ _ _ _ _ _ 9 (List.take (Tryz.prog.cellsOf 9) [c0, c1]) = some x0 at g0
  rw [show Tryz.prog.cellsOf 9 = 1 by kernel_rfl] at g0
  change DataW.trod _ _ _ _ _ _ _ 26 (List.take (Tryz.prog.cellsOf 26) [c1]) = some x1 at g1
  rw [show Tryz.prog.cellsOf 26 = 1 by kernel_rfl] at g1
  obtain ⟨s0, e0, _, w0⟩ := DataW.trod_string Tryz.underlying9 g0
  obtain ⟨v1, ys, e1, A, c, e2, h1, h2, h3, h4⟩ := open_cells g1
  simp at e0 e1
  subst e0
  subst e1
  subst e2
  exact ⟨⟨s0, ys⟩, A, c, rfl, ⟨⟨h3, h1, h2⟩, w0, h4⟩⟩
theorem rd_recs {w : World} {b off : Nat} {rs : List RecC} (hb : b < w.heap.size) (h : ∀ k (hk : k < rs.length), w.cell? ⟨b, off + k * 2, none⟩ = some (.string rs[k].id) ∧ ∃ A c, w.cell? ⟨b, off + k * 2 + 1, none⟩ = some (.slice A rs[k].data.length c) ∧ RecIn w w.heap.size rs[k].data A c) : Recs w w.heap.size (some ⟨b, off, none⟩) rs :=
  .inr ⟨b, off, rfl, hb, h⟩
set_option maxRecDepth 100000 in
theorem open_recs {fuel : Nat} {cs : List Value} {x : DataW H × List MemPlace} (h : DataW.trod enc Tryz.prog W 0 (fun _ => true) true fuel 23 cs = some x) :
    ∃ (A : Option Addr) (c : Nat) (rs : List RecC), cs = [.slice A rs.length c] ∧ Recs W W.heap.size A rs ∧ rs.length ≤ maxLen ∧ ∀ r ∈ rs, r.id.size ≤ maxLen ∧ ∀ c ∈ r.data, CelW maxLen c := by
  have hsz : Tryz.prog.cellsOf 28 = 2 := by kernel_rfl
  rcases DataW.trod_slice Tryz.underlying23 h with ⟨rfl, _⟩ | ⟨a, len, cap, elems, rest, n, _, rfl, _, hb, hl, hm, hlen, hel, _, _⟩
  · exact ⟨none, 0, [], rfl, .inl rfl, by simp, fun r hr => (by cases hr)⟩
  · have each : ∀ i, i < len → ∃ (r : RecC) (A : Option Addr) (c : Nat), InRec W r A c ∧ W.cell? (a.add (i * 2)) = some (.string r.id) ∧ W.cell? ((a.add (i * 2)).add 1) = some (.slice A r.data.length c) ∧ (a.add (i * 2)).block < W.heap.size := by
      intro i hi
      have h1 := hel i hi
      rw [List.getElem?_eq_getElem (by omega), hsz, Option.bind_eq_some_iff] at h1
      obtain ⟨cs', hcs, hy'⟩ := h1
      obtain ⟨_, hcn, hc⟩ := World.cells?_some hcs
      obtain ⟨r, A, c, rfl, hr⟩ := trod_rec hy' hcn
      refine ⟨r, A, c, hr, ?_, hc 1 (by omega), World.cells?_block hcs (by omega)⟩
      have := hc 0 (by omega)
      simpa [Addr.add] using this
    by_cases hz : len = 0
    · subst hz
      exact ⟨some a, cap, [], rfl, .inl rfl, by simp, fun r hr => (by cases hr)⟩
    · obtain ⟨b, off, spot⟩ := a
      have hspot : spot = none := by
        obtain ⟨_, _, _, _, hc, _⟩ := each 0 (by omega)
        simpa [Addr.add] using World.cell?_spot hc
      subst hspot
      obtain ⟨rs, hxl, hp⟩ := pick_list (P := fun k (r : RecC) => (W.cell? ⟨b, off + k * 2, none⟩ = some (.string r.id) ∧ ∃ A c, W.cell? ⟨b, off + k * 2 + 1, none⟩ = some (.slice A r.data.length c) ∧ RecIn W W.heap.size r.data A c) ∧ r.id.size ≤ maxLen ∧ ∀ c ∈ r.data, CelW maxLen c) len (fun k hk => by
        obtain ⟨r, A, c, hr, c0, c1, _⟩ := each k hk
        rw [add_plain] at c0 c1
        rw [add_plain] at c1
        exact ⟨r, ⟨c0, A, c, c1, hr.rd⟩, hr.id, hr.wf⟩)
      have hbl : b < W.heap.size := by
        obtain ⟨_, _, _, _, _, _, h0⟩ := each 0 (by omega)
        simpa [Addr.add] using h0
      refine ⟨some ⟨b, off, none⟩, cap, rs, by rw [hxl], rd_recs hbl (fun k hk => (hp k hk).1), by omega, fun r hr => ?_⟩
      obtain ⟨k, hk, rfl⟩ := List.getElem_of_mem hr
      exact (hp k hk).2
set_option maxRecDepth 100000 in
theorem trod_tab {fuel : Nat} {cs : List Value} {x : DataW H × List MemPlace} (h : DataW.trod enc Tryz.prog W 0 (fun _ => true) true fuel 25 cs = some x) (hl : cs.length = 4) :
    ∃ (t : TabC) (Au : Option Addr) (cu : Nat) (Ar : Option Addr) (cr : Nat), cs = [.string t.name, .int .i64 t.most, .slice Au t.us.length cu, .slice Ar t.rows.length cr] ∧ InT W t Au Ar := by
  obtain ⟨xs, m, _, _, _, hxl, hf⟩ := DataW.trod_struct Tryz.underlying25 h
  simp only [List.size_toArray, List.length_cons, List.length_nil] at hxl
  match xs, hxl with
  | [x0, x1, x2, x3], _ =>
  match cs, hl with
  | [c0, c1, c2, c3], _ =>
  have g0 := hf 0 _ rfl
  have g1 := hf 1 _ rfl
  have g2 := hf 2 _ rfl
  have g3 := hf 3 _ rfl
  change DataW.trod _ _ _ _ _ _ _ 9 (List.take (Tryz.prog.cellsOf 9) [c0, c1, c2, c3]) = some x0 at g0
  rw [show Tryz.prog.cellsOf 9 = 1 by kernel_rfl] at g0
  change DataW.trod _ _ _ _ _ _ _ 3 (List.take (Tryz.prog.cellsOf 3) [c1, c2, c3]) = some x1 at g1
  rw [show Tryz.prog.cellsOf 3 = 1 by kernel_rfl] at g1
  change DataW.trod _ _ _ _ _ _ _ 22 (List.take (Tryz.prog.cellsOf 22) [c2, c3]) = some x2 at g2
  rw [show Tryz.prog.cellsOf 22 = 1 by kernel_rfl] at g2
  change DataW.trod _ _ _ _ _ _ _ 23 (List.take (Tryz.prog.cellsOf 23) [c3]) = some x3 at g3
  rw [show Tryz.prog.cellsOf 23 = 1 by kernel_rfl] at g3
  obtain ⟨s0, e0, _, w0⟩ := DataW.trod_string Tryz.underlying9 g0
  obtain ⟨k1, e1, _, w1⟩ := DataW.trod_int (k := .i64) (by kernel_rfl) g1
  obtain ⟨Au, cu, us, e2, h2, h3, h4⟩ := open_strsF g2
  obtain ⟨Ar, cr, rs, e3, h5, h6, h7⟩ := open_recs g3
  simp at e0 e1 e2 e3
  subst e0
  subst e1
  subst e2
  subst e3
  exact ⟨⟨s0, k1, us, rs⟩, Au, cu, Ar, cr, rfl, ⟨h2, h5, h3, h6, h4, h7⟩⟩
set_option maxRecDepth 100000 in
theorem open_recordT {r : Reach} {base : Nat} {v : Value} {d : DataW H} {p : List MemPlace} (hv : Value.okWide Tryz.prog W r base 28 v) (h : DataW.Trod enc Tryz.prog W 0 (fun _ => true) true 28 v d p) :
    ∃ (x : RecC) (A : Option Addr) (c : Nat), v = .agg #[.string x.id, .slice A x.data.length c] ∧ InRec W x A c := by
  obtain ⟨cs, rfl, _, hsz⟩ : ∃ cs, v = .agg cs ∧ True ∧ cs.size = 2 := by
    simp only [Value.okWide, Tryz.underlying28] at hv
    obtain ⟨cs, h1, h2, _⟩ := hv
    exact ⟨cs, h1, trivial, h2.trans (by kernel_rfl)⟩
  obtain ⟨fuel, hf⟩ := h
  obtain ⟨l⟩ := cs
  obtain ⟨x, A, c, e, hx⟩ := trod_rec hf (by simpa [Value.cells] using hsz)
  simp [Value.cells] at e
  subst e
  exact ⟨x, A, c, rfl, hx⟩
set_option maxRecDepth 100000 in
theorem open_tableT {r : Reach} {base : Nat} {v : Value} {d : DataW H} {p : List MemPlace} (hv : Value.okWide Tryz.prog W r base 25 v) (h : DataW.Trod enc Tryz.prog W 0 (fun _ => true) true 25 v d p) :
    ∃ (t : TabC) (Au : Option Addr) (cu : Nat) (Ar : Option Addr) (cr : Nat), v = .agg #[.string t.name, .int .i64 t.most, .slice Au t.us.length cu, .slice Ar t.rows.length cr] ∧ InT W t Au Ar := by
  obtain ⟨cs, rfl, _, hsz⟩ : ∃ cs, v = .agg cs ∧ True ∧ cs.size = 4 := by
    simp only [Value.okWide, Tryz.underlying25] at hv
    obtain ⟨cs, h1, h2, _⟩ := hv
    exact ⟨cs, h1, trivial, h2.trans (by kernel_rfl)⟩
  obtain ⟨fuel, hf⟩ := h
  obtain ⟨l⟩ := cs
  obtain ⟨t, Au, cu, Ar, cr, e, ht⟩ := trod_tab hf (by simpa [Value.cells] using hsz)
  simp [Value.cells] at e
  subst e
  exact ⟨t, Au, cu, Ar, cr, rfl, ht⟩
end
end
section
open Go.ChangeShapes Go.WideShapes Go.ChangeAt Go.RowKit
section
variable {H : Type} {enc : TypeId × Value → H} {P : Program} {W : World}
theorem open_strs {r : Reach} {b0 : Nat} {t e : TypeId} {v : Value} {d : DataW H} {p : List MemPlace} (ht : P.underlying t = some (.slice e)) (he : P.underlying e = some .string) (hce : P.cellsOf e = 1)
    (hv : Value.okWide P W r b0 t v) (h : DataW.Trod enc P W 0 (fun _ => true) true t v d p) (hlt : ∀ x ∈ p, x.block < W.heap.size) :
    ∃ (A : Option Addr) (c : Nat) (xs : List ByteArray), v = .slice A xs.length c ∧ Rd W W.heap.size A (sv xs) ∧ xs.length ≤ c ∧ c ≤ maxLen ∧ (∀ s ∈ xs, s.size ≤ maxLen) ∧
      ((d = .nil ∧ xs = []) ∨ ∃ el sp, d = .slice el sp ∧ el.length = xs.length) := by
  obtain ⟨a0, len, cap, rfl⟩ := okWide_slice ht hv
  obtain ⟨fuel, hf⟩ := h
  rcases open_strings ht he hce hf with ⟨hcs, hx⟩ | ⟨a, len', cap', ss, hcs, _, hl, hm, hz, hx, hcell, hws⟩
  · simp [Value.cells] at hcs
    obtain ⟨rfl, rfl, rfl⟩ := hcs
    simp only [Prod.mk.injEq] at hx
    obtain ⟨rfl, rfl⟩ := hx
    exact ⟨none, 0, [], rfl, Rd.nil, Nat.le_refl _, by unfold maxLen; omega, by simp, .inl ⟨rfl, rfl⟩⟩
  · simp [Value.cells] at hcs
    obtain ⟨rfl, rfl, rfl⟩ := hcs
    simp only [Prod.mk.injEq] at hx
    obtain ⟨rfl, rfl⟩ := hx
    simp only [if_true] at hz
    have hlen : (ss.take len).length = len := by rw [List.length_take]; omega
    refine ⟨some a, cap, ss.take len, by rw [hlen], ?_, by omega, hm, fun s hs => hws s (List.mem_of_mem_take hs), .inr ⟨_, _, rfl, by simp [strs]⟩⟩
    by_cases h0 : len = 0
    · left
      subst h0
      simp [sv]
    · obtain ⟨b, off, spot⟩ := a
      have hspot : spot = none := by simpa [Addr.add] using World.cell?_spot (hcell 0 (by omega))
      subst hspot
      have hbW : b < W.heap.size := hlt (.cell b off) (MemPlace.mem_row.2 ⟨0, by omega, by simp⟩)
      refine .inr ⟨b, off, rfl, hbW, fun j hj => ?_⟩
      have hj' : j < len := by rw [sv_len, hlen] at hj; exact hj
      have := hcell j (by omega)
      rw [add_plain] at this
      rw [this]
      simp [sv, List.getD, List.getElem?_eq_getElem (show j < ss.length by omega)]
end
end
end Go.Proofs.YtcgioepbooafcaaGreatDoor
