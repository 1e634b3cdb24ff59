/- How definitions lie in memory, when they read as data. Conditions: none. -/
import Derived.Test.YtgoecnhkmfnenaaKOpen
import Derived.Test.YtgoecnhkmfnenaaGreatD
import Derived.Test.YtgoecnhkmfnenaaClass
namespace Go.Proofs.Ytgoecnhkmfnenaa
open Go.ChangeShapes Go.WideShapes Go.ChangeAt Go.RowKit
section
variable {H : Type} {enc : TypeId × Value → H} {W : World}
set_option maxRecDepth 100000 in
theorem trod_sl {T E : TypeId} {sz : Nat} {Q : Nat → Nat → Prop} (hT : Try.prog.underlying T = some (.slice E)) (hsz : Try.prog.cellsOf E = sz) (h0 : 0 < sz)
    (hQ : ∀ (fuel : Nat) (cs : List Value) (x : DataW H × List MemPlace) (b o : Nat), b < W.heap.size → DataW.trod enc Try.prog W 0 (fun _ => true) true fuel E cs = some x → cs.length = sz → (∀ j, j < sz → W.cell? ⟨b, o + j, none⟩ = cs[j]?) → Q b o)
    {fuel : Nat} {cs : List Value} {x : DataW H × List MemPlace} (h : DataW.trod enc Try.prog W 0 (fun _ => true) true fuel T cs = some x) : ∃ v, cs = [v] ∧ Sl W.heap.size sz Q v := by
  rcases DataW.trod_slice hT h with ⟨rfl, _⟩ | ⟨a, len, cap, elems, rest, n, _, rfl, _, hb, hl, hm, hlen, hel, _, _⟩
  · exact ⟨_, rfl, none, 0, 0, rfl, by unfold maxLen; omega, .inl rfl⟩
  · refine ⟨_, rfl, some a, len, cap, rfl, by omega, ?_⟩
    by_cases hz : len = 0
    · exact .inl hz
    · have each : ∀ i, i < len → ∃ (f : Nat) (cs' : List Value) (y : DataW H × List MemPlace), DataW.trod enc Try.prog W 0 (fun _ => true) true f E cs' = some y ∧ cs'.length = sz ∧ (∀ j, j < sz → W.cell? ((a.add (i * sz)).add j) = cs'[j]?) ∧ (a.add (i * sz)).block < W.heap.size := by
        intro i hi
        have h1 := hel i hi
        rw [List.getElem?_eq_getElem (by omega), hsz, Option.bind_eq_some_iff] at h1
        obtain ⟨cs', hcs, hy'⟩ := h1
        obtain ⟨_, hcn, hc⟩ := World.cells?_some hcs
        exact ⟨_, cs', _, hy', hcn, hc, World.cells?_block hcs h0⟩
      obtain ⟨b, off, spot⟩ := a
      have hspot : spot = none := by
        obtain ⟨f, cs', y, _, hn, hc, _⟩ := each 0 (by omega)
        have h1 := hc 0 h0
        obtain ⟨v, hv⟩ : ∃ v, cs'[0]? = some v := ⟨_, List.getElem?_eq_getElem (by omega)⟩
        rw [hv] at h1
        simpa [Addr.add] using World.cell?_spot h1
      subst hspot
      refine .inr ⟨b, off, rfl, ?_, fun k hk => ?_⟩
      · obtain ⟨_, _, _, _, _, _, hbl⟩ := each 0 (by omega)
        simpa [Addr.add] using hbl
      · obtain ⟨f, cs', y, hy, hn, hc, hbl⟩ := each k hk
        refine hQ f cs' y b (off + k * sz) (by rw [add_plain] at hbl; exact hbl) hy hn fun j hj => ?_
        have := hc j hj
        rw [add_plain, add_plain] at this
        exact this
set_option maxRecDepth 100000 in
theorem el_cell (fuel : Nat) (cs : List Value) (x : DataW H × List MemPlace) (b o : Nat) (hb : b < W.heap.size) (h : DataW.trod enc Try.prog W 0 (fun _ => true) true fuel 36 cs = some x) (hl : cs.length = 5) (hc : ∀ j, j < 5 → W.cell? ⟨b, o + j, none⟩ = cs[j]?) : CellE W b o := by
  obtain ⟨xs, m, _, _, _, hxl, hf⟩ := DataW.trod_struct Try.underlying36 h
  simp only [List.size_toArray, List.length_cons, List.length_nil] at hxl
  match xs, hxl with
  | [x0, x1, x2, x3, x4], _ =>
  match cs, hl with
  | [c0, c1, c2, c3, c4], _ =>
  have g0 := hf 0 _ rfl
  have g1 := hf 1 _ rfl
  have g2 := hf 2 _ rfl
  have g3 := hf 3 _ rfl
  have g4 := hf 4 _ rfl
  change DataW.trod _ _ _ _ _ _ _ 5 (List.take (Try.prog.cellsOf 5) [c0, c1, c2, c3, c4]) = some x0 at g0
  rw [show Try.prog.cellsOf 5 = 1 by kernel_rfl] at g0
  change DataW.trod _ _ _ _ _ _ _ 9 (List.take (Try.prog.cellsOf 9) [c1, c2, c3, c4]) = some x1 at g1
  rw [show Try.prog.cellsOf 9 = 1 by kernel_rfl] at g1
  change DataW.trod _ _ _ _ _ _ _ 9 (List.take (Try.prog.cellsOf 9) [c2, c3, c4]) = some x2 at g2
  rw [show Try.prog.cellsOf 9 = 1 by kernel_rfl] at g2
  change DataW.trod _ _ _ _ _ _ _ 2 (List.take (Try.prog.cellsOf 2) [c3, c4]) = some x3 at g3
  rw [show Try.prog.cellsOf 2 = 1 by kernel_rfl] at g3
  change DataW.trod _ _ _ _ _ _ _ 3 (List.take (Try.prog.cellsOf 3) [c4]) = some x4 at g4
  rw [show Try.prog.cellsOf 3 = 1 by kernel_rfl] at g4
  obtain ⟨k0, e0, _, hw0⟩ := DataW.trod_int (k := .u8) (by kernel_rfl) g0
  obtain ⟨s1, e1, _, _⟩ := DataW.trod_string Try.underlying9 g1
  obtain ⟨s2, e2, _, _⟩ := DataW.trod_string Try.underlying9 g2
  obtain ⟨k3, e3, _, _⟩ := DataW.trod_int (k := .i64) (by kernel_rfl) g3
  obtain ⟨k4, e4, _, _⟩ := DataW.trod_int (k := .i64) (by kernel_rfl) g4
  simp at e0 e1 e2 e3 e4
  subst e0
  subst e1
  subst e2
  subst e3
  subst e4
  have d0 := hc 0 (by omega)
  have d1 := hc 1 (by omega)
  have d2 := hc 2 (by omega)
  have d3 := hc 3 (by omega)
  have d4 := hc 4 (by omega)
  exact ⟨s1, s2, d1, d2⟩
theorem sl_cells {fuel : Nat} {cs : List Value} {x : DataW H × List MemPlace} (h : DataW.trod enc Try.prog W 0 (fun _ => true) true fuel 30 cs = some x) : ∃ v, cs = [v] ∧ Sl W.heap.size 5 (CellE W) v :=
  trod_sl Try.underlying30 (show Try.prog.cellsOf 36 = 5 by kernel_rfl) (by omega) el_cell h
theorem el_str (fuel : Nat) (cs : List Value) (x : DataW H × List MemPlace) (b o : Nat) (_ : b < W.heap.size) (h : DataW.trod enc Try.prog W 0 (fun _ => true) true fuel 9 cs = some x) (_ : cs.length = 1) (hc : ∀ j, j < 1 → W.cell? ⟨b, o + j, none⟩ = cs[j]?) : StrE W b o := by
  obtain ⟨s, rfl, _, _⟩ := DataW.trod_string Try.underlying9 h
  exact ⟨s, hc 0 (by omega)⟩
theorem sl_strs {fuel : Nat} {cs : List Value} {x : DataW H × List MemPlace} (h : DataW.trod enc Try.prog W 0 (fun _ => true) true fuel 42 cs = some x) : ∃ v, cs = [v] ∧ Sl W.heap.size 1 (StrE W) v :=
  trod_sl Try.underlying42 (show Try.prog.cellsOf 9 = 1 by kernel_rfl) (by omega) el_str h
set_option maxRecDepth 100000 in
theorem el_arg (fuel : Nat) (cs : List Value) (x : DataW H × List MemPlace) (b o : Nat) (hb : b < W.heap.size) (h : DataW.trod enc Try.prog W 0 (fun _ => true) true fuel 100 cs = some x) (hl : cs.length = 2) (hc : ∀ j, j < 2 → W.cell? ⟨b, o + j, none⟩ = cs[j]?) : ArgE W W.heap.size b o := by
  obtain ⟨xs, m, _, _, _, hxl, hf⟩ := DataW.trod_struct Try.underlying100 h
  simp only [List.size_toArray, List.length_cons, List.length_nil] at hxl
  match xs, hxl with
  | [x0, x1], _ =>
  match cs, hl with
  | [c0, c1], _ =>
  have g0 := hf 0 _ rfl
  have g1 := hf 1 _ rfl
  change DataW.trod _ _ _ _ _ _ _ 9 (List.take (Try.prog.cellsOf 9) [c0, c1]) = some x0 at g0
  rw [show Try.prog.cellsOf 9 = 1 by kernel_rfl] at g0
  change DataW.trod _ _ _ _ _ _ _ 30 (List.take (Try.prog.cellsOf 30) [c1]) = some x1 at g1
  rw [show Try.prog.cellsOf 30 = 1 by kernel_rfl] at g1
  obtain ⟨s0, e0, _, _⟩ := DataW.trod_string Try.underlying9 g0
  obtain ⟨v1, e1, l1⟩ := sl_cells g1
  simp at e0 e1
  subst e0
  subst e1
  have d0 := hc 0 (by omega)
  have d1 := hc 1 (by omega)
  exact ⟨s0, _, d0, d1, l1⟩
theorem sl_args {fuel : Nat} {cs : List Value} {x : DataW H × List MemPlace} (h : DataW.trod enc Try.prog W 0 (fun _ => true) true fuel 95 cs = some x) : ∃ v, cs = [v] ∧ Sl W.heap.size 2 (ArgE W W.heap.size) v :=
  trod_sl Try.underlying95 (show Try.prog.cellsOf 100 = 2 by kernel_rfl) (by omega) el_arg h
set_option maxRecDepth 100000 in
theorem el_dir (fuel : Nat) (cs : List Value) (x : DataW H × List MemPlace) (b o : Nat) (hb : b < W.heap.size) (h : DataW.trod enc Try.prog W 0 (fun _ => true) true fuel 97 cs = some x) (hl : cs.length = 2) (hc : ∀ j, j < 2 → W.cell? ⟨b, o + j, none⟩ = cs[j]?) : DirE W W.heap.size b o := by
  obtain ⟨xs, m, _, _, _, hxl, hf⟩ := DataW.trod_struct Try.underlying97 h
  simp only [List.size_toArray, List.length_cons, List.length_nil] at hxl
  match xs, hxl with
  | [x0, x1], _ =>
  match cs, hl with
  | [c0, c1], _ =>
  have g0 := hf 0 _ rfl
  have g1 := hf 1 _ rfl
  change DataW.trod _ _ _ _ _ _ _ 9 (List.take (Try.prog.cellsOf 9) [c0, c1]) = some x0 at g0
  rw [show Try.prog.cellsOf 9 = 1 by kernel_rfl] at g0
  change DataW.trod _ _ _ _ _ _ _ 95 (List.take (Try.prog.cellsOf 95) [c1]) = some x1 at g1
  rw [show Try.prog.cellsOf 95 = 1 by kernel_rfl] at g1
  obtain ⟨s0, e0, _, _⟩ := DataW.trod_string Try.underlying9 g0
  obtain ⟨v1, e1, l1⟩ := sl_args g1
  simp at e0 e1
  subst e0
  subst e1
  have d0 := hc 0 (by omega)
  have d1 := hc 1 (by omega)
  exact ⟨s0, _, d0, d1, l1⟩
theorem sl_dirs {fuel : Nat} {cs : List Value} {x : DataW H × List MemPlace} (h : DataW.trod enc Try.prog W 0 (fun _ => true) true fuel 31 cs = some x) : ∃ v, cs = [v] ∧ Sl W.heap.size 2 (DirE W W.heap.size) v :=
  trod_sl Try.underlying31 (show Try.prog.cellsOf 97 = 2 by kernel_rfl) (by omega) el_dir h
set_option maxRecDepth 100000 in
theorem el_inp (fuel : Nat) (cs : List Value) (x : DataW H × List MemPlace) (b o : Nat) (hb : b < W.heap.size) (h : DataW.trod enc Try.prog W 0 (fun _ => true) true fuel 33 cs = some x) (hl : cs.length = 6) (hc : ∀ j, j < 6 → W.cell? ⟨b, o + j, none⟩ = cs[j]?) : InpE W W.heap.size b o := by
  obtain ⟨xs, m, _, _, _, hxl, hf⟩ := DataW.trod_struct Try.underlying33 h
  simp only [List.size_toArray, List.length_cons, List.length_nil] at hxl
  match xs, hxl with
  | [x0, x1, x2, x3, x4], _ =>
  match cs, hl with
  | [c0, c1, c2, c3, c4, c5], _ =>
  have g0 := hf 0 _ rfl
  have g1 := hf 1 _ rfl
  have g2 := hf 2 _ rfl
  have g3 := hf 3 _ rfl
  have g4 := hf 4 _ rfl
  change DataW.trod _ _ _ _ _ _ _ 9 (List.take (Try.prog.cellsOf 9) [c0, c1, c2, c3, c4, c5]) = some x0 at g0
  rw [show Try.prog.cellsOf 9 = 1 by kernel_rfl] at g0
  change DataW.trod _ _ _ _ _ _ _ 24 (List.take (Try.prog.cellsOf 24) [c1, c2, c3, c4, c5]) = some x1 at g1
  rw [show Try.prog.cellsOf 24 = 2 by kernel_rfl] at g1
  change DataW.trod _ _ _ _ _ _ _ 4 (List.take (Try.prog.cellsOf 4) [c3, c4, c5]) = some x2 at g2
  rw [show Try.prog.cellsOf 4 = 1 by kernel_rfl] at g2
  change DataW.trod _ _ _ _ _ _ _ 30 (List.take (Try.prog.cellsOf 30) [c4, c5]) = some x3 at g3
  rw [show Try.prog.cellsOf 30 = 1 by kernel_rfl] at g3
  change DataW.trod _ _ _ _ _ _ _ 31 (List.take (Try.prog.cellsOf 31) [c5]) = some x4 at g4
  rw [show Try.prog.cellsOf 31 = 1 by kernel_rfl] at g4
  obtain ⟨s0, e0, _, _⟩ := DataW.trod_string Try.underlying9 g0
  obtain ⟨s1, A1, w1, ws1, e1, _, _, _⟩ := trod_ref g1
  obtain ⟨k2, e2, _⟩ := DataW.trod_bool Try.underlying4 g2
  obtain ⟨v3, e3, l3⟩ := sl_cells g3
  obtain ⟨v4, e4, l4⟩ := sl_dirs g4
  simp at e0 e1 e2 e3 e4
  subst e0
  obtain ⟨rfl, rfl⟩ := e1
  subst e2
  subst e3
  subst e4
  have d0 := hc 0 (by omega)
  have d1 := hc 1 (by omega)
  have d2 := hc 2 (by omega)
  have d3 := hc 3 (by omega)
  have d4 := hc 4 (by omega)
  have d5 := hc 5 (by omega)
  exact ⟨s0, s1, A1, _, w1, _, _, d0, d1, d2, d4, d5, l3, l4⟩
theorem sl_inps {fuel : Nat} {cs : List Value} {x : DataW H × List MemPlace} (h : DataW.trod enc Try.prog W 0 (fun _ => true) true fuel 43 cs = some x) : ∃ v, cs = [v] ∧ Sl W.heap.size 6 (InpE W W.heap.size) v :=
  trod_sl Try.underlying43 (show Try.prog.cellsOf 33 = 6 by kernel_rfl) (by omega) el_inp h
set_option maxRecDepth 100000 in
theorem el_fld (fuel : Nat) (cs : List Value) (x : DataW H × List MemPlace) (b o : Nat) (hb : b < W.heap.size) (h : DataW.trod enc Try.prog W 0 (fun _ => true) true fuel 81 cs = some x) (hl : cs.length = 5) (hc : ∀ j, j < 5 → W.cell? ⟨b, o + j, none⟩ = cs[j]?) : FldE W W.heap.size b o := by
  obtain ⟨xs, m, _, _, _, hxl, hf⟩ := DataW.trod_struct Try.underlying81 h
  simp only [List.size_toArray, List.length_cons, List.length_nil] at hxl
  match xs, hxl with
  | [x0, x1, x2, x3], _ =>
  match cs, hl with
  | [c0, c1, c2, c3, c4], _ =>
  have g0 := hf 0 _ rfl
  have g1 := hf 1 _ rfl
  have g2 := hf 2 _ rfl
  have g3 := hf 3 _ rfl
  change DataW.trod _ _ _ _ _ _ _ 9 (List.take (Try.prog.cellsOf 9) [c0, c1, c2, c3, c4]) = some x0 at g0
  rw [show Try.prog.cellsOf 9 = 1 by kernel_rfl] at g0
  change DataW.trod _ _ _ _ _ _ _ 43 (List.take (Try.prog.cellsOf 43) [c1, c2, c3, c4]) = some x1 at g1
  rw [show Try.prog.cellsOf 43 = 1 by kernel_rfl] at g1
  change DataW.trod _ _ _ _ _ _ _ 24 (List.take (Try.prog.cellsOf 24) [c2, c3, c4]) = some x2 at g2
  rw [show Try.prog.cellsOf 24 = 2 by kernel_rfl] at g2
  change DataW.trod _ _ _ _ _ _ _ 31 (List.take (Try.prog.cellsOf 31) [c4]) = some x3 at g3
  rw [show Try.prog.cellsOf 31 = 1 by kernel_rfl] at g3
  obtain ⟨s0, e0, _, _⟩ := DataW.trod_string Try.underlying9 g0
  obtain ⟨v1, e1, l1⟩ := sl_inps g1
  obtain ⟨s2, A2, w2, ws2, e2, _, _, _⟩ := trod_ref g2
  obtain ⟨v3, e3, l3⟩ := sl_dirs g3
  simp at e0 e1 e2 e3
  subst e0
  subst e1
  obtain ⟨rfl, rfl⟩ := e2
  subst e3
  have d0 := hc 0 (by omega)
  have d1 := hc 1 (by omega)
  have d2 := hc 2 (by omega)
  have d3 := hc 3 (by omega)
  have d4 := hc 4 (by omega)
  exact ⟨s0, s2, A2, _, w2, _, _, d0, d1, d2, d3, d4, l1, l3⟩
theorem sl_flds {fuel : Nat} {cs : List Value} {x : DataW H × List MemPlace} (h : DataW.trod enc Try.prog W 0 (fun _ => true) true fuel 44 cs = some x) : ∃ v, cs = [v] ∧ Sl W.heap.size 5 (FldE W W.heap.size) v :=
  trod_sl Try.underlying44 (show Try.prog.cellsOf 81 = 5 by kernel_rfl) (by omega) el_fld h
set_option maxRecDepth 100000 in
theorem el_def (fuel : Nat) (cs : List Value) (x : DataW H × List MemPlace) (b o : Nat) (hb : b < W.heap.size) (h : DataW.trod enc Try.prog W 0 (fun _ => true) true fuel 46 cs = some x) (hl : cs.length = 6) (hc : ∀ j, j < 6 → W.cell? ⟨b, o + j, none⟩ = cs[j]?) : DefE W W.heap.size b o := by
  obtain ⟨xs, m, _, _, _, hxl, hf⟩ := DataW.trod_struct Try.underlying46 h
  simp only [List.size_toArray, List.length_cons, List.length_nil] at hxl
  match xs, hxl with
  | [x0, x1, x2, x3, x4, x5], _ =>
  match cs, hl with
  | [c0, c1, c2, c3, c4, c5], _ =>
  have g0 := hf 0 _ rfl
  have g1 := hf 1 _ rfl
  have g2 := hf 2 _ rfl
  have g3 := hf 3 _ rfl
  have g4 := hf 4 _ rfl
  have g5 := hf 5 _ rfl
  change DataW.trod _ _ _ _ _ _ _ 5 (List.take (Try.prog.cellsOf 5) [c0, c1, c2, c3, c4, c5]) = some x0 at g0
  rw [show Try.prog.cellsOf 5 = 1 by kernel_rfl] at g0
  change DataW.trod _ _ _ _ _ _ _ 9 (List.take (Try.prog.cellsOf 9) [c1, c2, c3, c4, c5]) = some x1 at g1
  rw [show Try.prog.cellsOf 9 = 1 by kernel_rfl] at g1
  change DataW.trod _ _ _ _ _ _ _ 31 (List.take (Try.prog.cellsOf 31) [c2, c3, c4, c5]) = some x2 at g2
  rw [show Try.prog.cellsOf 31 = 1 by kernel_rfl] at g2
  change DataW.trod _ _ _ _ _ _ _ 42 (List.take (Try.prog.cellsOf 42) [c3, c4, c5]) = some x3 at g3
  rw [show Try.prog.cellsOf 42 = 1 by kernel_rfl] at g3
  change DataW.trod _ _ _ _ _ _ _ 43 (List.take (Try.prog.cellsOf 43) [c4, c5]) = some x4 at g4
  rw [show Try.prog.cellsOf 43 = 1 by kernel_rfl] at g4
  change DataW.trod _ _ _ _ _ _ _ 44 (List.take (Try.prog.cellsOf 44) [c5]) = some x5 at g5
  rw [show Try.prog.cellsOf 44 = 1 by kernel_rfl] at g5
  obtain ⟨k0, e0, _, hw0⟩ := DataW.trod_int (k := .u8) (by kernel_rfl) g0
  obtain ⟨s1, e1, _, _⟩ := DataW.trod_string Try.underlying9 g1
  obtain ⟨v2, e2, l2⟩ := sl_dirs g2
  obtain ⟨v3, e3, l3⟩ := sl_strs g3
  obtain ⟨v4, e4, l4⟩ := sl_inps g4
  obtain ⟨v5, e5, l5⟩ := sl_flds g5
  simp at e0 e1 e2 e3 e4 e5
  subst e0
  subst e1
  subst e2
  subst e3
  subst e4
  subst e5
  have d0 := hc 0 (by omega)
  have d1 := hc 1 (by omega)
  have d2 := hc 2 (by omega)
  have d3 := hc 3 (by omega)
  have d4 := hc 4 (by omega)
  have d5 := hc 5 (by omega)
  obtain ⟨q0, q1⟩ := wf_byte hw0
  have hk : ((UInt8.ofNat k0.toNat).toNat : Int) = k0 := by simp; omega
  exact ⟨UInt8.ofNat k0.toNat, s1, _, _, _, _, by rw [hk]; exact d0, d1, d2, d3, d4, d5, l2, l3, l4, l5⟩
theorem sl_defs {fuel : Nat} {cs : List Value} {x : DataW H × List MemPlace} (h : DataW.trod enc Try.prog W 0 (fun _ => true) true fuel 47 cs = some x) : ∃ v, cs = [v] ∧ Sl W.heap.size 6 (DefE W W.heap.size) v :=
  trod_sl Try.underlying47 (show Try.prog.cellsOf 46 = 6 by kernel_rfl) (by omega) el_def h
set_option maxRecDepth 100000 in
theorem open_input2 {r : Reach} {b0 : Nat} {v : Value} {d : DataW H} {p : List MemPlace} (hv : Value.okWide Try.prog W r b0 33 v) (h : DataW.Trod enc Try.prog W 0 (fun _ => true) true 33 v d p) :
    ∃ (vn tn : ByteArray) (A : Option Addr) (c : Nat) (fa : List UInt8) (vh : Bool) (D : Option Addr) (dl dc : Nat) (nul : Bool) (GA : Option Addr) (gl gc : Nat),
      v = .agg #[.string vn, .string tn, .slice A fa.length c, .bool vh, .slice D dl dc, .slice GA gl gc] ∧ Rd W W.heap.size A (bv fa) ∧ fa.length ≤ c ∧ c ≤ maxLen ∧ Dflt W W.heap.size D dl nul ∧ Sl W.heap.size 5 (CellE W) (.slice D dl dc) := by
  obtain ⟨cs, rfl, _⟩ := okWide_struct Try.underlying33 hv
  obtain ⟨fuel, hf⟩ := h
  obtain ⟨vn, tn, A, c, fa, vh, D, dl, dc, nul, GA, gl, gc, e, r1, r2, r3, r4⟩ := trod_input hf
  obtain ⟨l⟩ := cs
  simp [Value.cells] at e
  subst e
  obtain ⟨xs, m, _, _, _, hxl, hff⟩ := DataW.trod_struct Try.underlying33 hf
  simp only [List.size_toArray, List.length_cons, List.length_nil] at hxl
  have g3 := hff 3 _ rfl
  rw [List.getElem?_eq_getElem (by omega)] at g3
  change DataW.trod _ _ _ _ _ _ _ 30 (List.take (Try.prog.cellsOf 30) [.slice D dl dc, .slice GA gl gc]) = some _ at g3
  rw [show Try.prog.cellsOf 30 = 1 by kernel_rfl] at g3
  obtain ⟨v', ev, sv⟩ := sl_cells g3
  simp at ev
  subst ev
  exact ⟨vn, tn, A, c, fa, vh, D, dl, dc, nul, GA, gl, gc, rfl, r1, r2, r3, r4, sv⟩
theorem open_defs {r : Reach} {b0 : Nat} {v : Value} {d : DataW H} {p : List MemPlace} (hv : Value.okWide Try.prog W r b0 47 v) (h : DataW.Trod enc Try.prog W 0 (fun _ => true) true 47 v d p) :
    ∃ (A : Option Addr) (n c : Nat), v = .slice A n c ∧ Sl W.heap.size 6 (DefE W W.heap.size) (.slice A n c) := by
  have hs : ∃ A n c, v = .slice A n c := by
    simp only [Value.okWide, Try.underlying47, Cell.okWide] at hv
    cases v <;> simp_all [Cell.ok]
  obtain ⟨A, n, c, rfl⟩ := hs
  obtain ⟨fuel, hf⟩ := h
  obtain ⟨v', e, s⟩ := sl_defs hf
  simp [Value.cells] at e
  subst e
  exact ⟨A, n, c, rfl, s⟩
end
theorem drd_of {w : World} {B n c : Nat} {A : Option Addr} (h : Sl B 6 (DefE w B) (.slice A n c)) : ∃ ds : List (UInt8 × ByteArray), ds.length = n ∧ DRd w B A ds := by
  obtain ⟨A', n', c', e, _, h⟩ := h
  cases e
  rcases h with rfl | ⟨b, off, rfl, hb, hc⟩
  · exact ⟨[], rfl, .inl rfl⟩
  · have each : ∀ k, k < n → ∃ d : UInt8 × ByteArray, w.cell? ⟨b, off + k * 6, none⟩ = some (.int .u8 d.1.toNat) ∧ w.cell? ⟨b, off + k * 6 + 1, none⟩ = some (.string d.2) ∧
        (∃ A2 n2 c2, w.cell? ⟨b, off + k * 6 + 2, none⟩ = some (.slice A2 n2 c2)) ∧ (∃ A2 n2 c2, w.cell? ⟨b, off + k * 6 + 3, none⟩ = some (.slice A2 n2 c2)) ∧ (∃ A2 n2 c2, w.cell? ⟨b, off + k * 6 + 4, none⟩ = some (.slice A2 n2 c2)) ∧ (∃ A2 n2 c2, w.cell? ⟨b, off + k * 6 + 5, none⟩ = some (.slice A2 n2 c2)) := by
      intro k hk
      obtain ⟨kd, nm, gv, sv, iv, fv, h0, h1, h2, h3, h4, h5, g2, g3, g4, g5⟩ := hc k hk
      obtain ⟨A2, n2, c2, rfl, _⟩ := g2.len
      obtain ⟨A3, n3, c3, rfl, _⟩ := g3.len
      obtain ⟨A4, n4, c4, rfl, _⟩ := g4.len
      obtain ⟨A5, n5, c5, rfl, _⟩ := g5.len
      exact ⟨(kd, nm), h0, h1, ⟨_, _, _, h2⟩, ⟨_, _, _, h3⟩, ⟨_, _, _, h4⟩, ⟨_, _, _, h5⟩⟩
    refine ⟨(List.range n).map fun k => if h : k < n then Classical.choose (each k h) else (0, ByteArray.empty), by simp, .inr ⟨b, off, rfl, hb, fun k hk => ?_⟩⟩
    have hk' : k < n := by simpa using hk
    have hs := Classical.choose_spec (each k hk')
    simpa [hk'] using hs
end Go.Proofs.Ytgoecnhkmfnenaa
