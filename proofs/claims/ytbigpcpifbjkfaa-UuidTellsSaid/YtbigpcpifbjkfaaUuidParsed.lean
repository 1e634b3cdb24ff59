/- What a text tells, in plain words; arrays of sixteen bytes in memory. Conditions: none but that the text is one. -/
import Derived.Test.YtbigpcpifbjkfaaUuidDigit
import Derived.Laws.ResultCell
namespace Go.Proofs.Ytbigpcpifbjkfaa
open Go.RowKit Go.ChangeShapes Go.WideShapes Go.ChangeAt
def ch (s : ByteArray) (i : Nat) : Int := if h : i < s.size then ((s[i]'h).toNat : Int) else 0
def okAt (s : ByteArray) (i : Nat) : Bool := if dash i then decide (ch s i = 45) else decide (0 ≤ dig (ch s i))
def okAll (s : ByteArray) : Bool := (List.range 36).all (okAt s)
def dec (s : ByteArray) : List Int := (List.range 16).map fun k => 16 * dig (ch s (pos k)) + dig (ch s (pos k + 1))
def zero16 : List Int := List.replicate 16 0
def parsed (s : ByteArray) : List Int × Int := if s.size = 36 ∧ okAll s = true then (dec s, 0) else (zero16, 130)
theorem av_size {xs : List Int} (h : xs.length = 16) : (av xs).size = 16 := by simp [av, h]
theorem load16 {w : World} {b : Nat} {xs : List Int} {t : TypeId} (h : w.heap[b]? = some (.cells (av xs) t)) (hl : xs.length = 16) : (loadCells ⟨b, 0, none⟩ 16).run Try.prog w = .ok (av xs) w := by
  have := run_loadCells_list (P := Try.prog) w ⟨b, 0, none⟩ (av xs).toList (fun j v hv => by
    rw [add_plain, Nat.zero_add, cell_of_row w b j _ t _ h]
    simpa using hv)
  rw [Array.length_toList, av_size hl, Array.toArray_toList] at this
  exact this
theorem one16 (xs : List Int) : (av xs).all (·.oneCell') = true := by
  rw [Array.all_eq_true_iff_forall_mem]
  intro v hv
  simp only [av, List.mem_toArray, List.mem_map] at hv
  obtain ⟨x, _, rfl⟩ := hv
  rfl
theorem store16 {w : World} {b : Nat} {xs ys : List Int} {t : TypeId} (h : w.heap[b]? = some (.cells (av xs) t)) (hl : xs.length = 16) (hy : ys.length = 16) : (storeCells ⟨b, 0, none⟩ (av ys).toList).run Try.prog w = .ok () (w.setRow b (av ys)) := by
  have := run_storeCells_from (P := Try.prog) b t (av ys).toList 0 (av xs) w h (by rw [Array.length_toList, av_size hl, av_size hy]) (fun v hv => (Array.all_eq_true_iff_forall_mem.1 (one16 ys)) v (by simpa using hv))
  simpa using this
theorem below_setRow {B b : Nat} {w w' : World} (h : Below B w w') (hb : B ≤ b) (c : Array Value) : Below B w (w'.setRow b c) := by
  refine h.trans ⟨rfl, rfl, rfl, by simp [World.setRow], fun j hj => ?_⟩
  simp only [World.setRow, Array.getElem?_modify]
  rw [if_neg (by omega)]
theorem list16 (xs : List Int) (h : xs.length = 16) : ∃ x0 x1 x2 x3 x4 x5 x6 x7 x8 x9 x10 x11 x12 x13 x14 x15, xs = [x0, x1, x2, x3, x4, x5, x6, x7, x8, x9, x10, x11, x12, x13, x14, x15] := by
  match xs, h with
  | [x0, x1, x2, x3, x4, x5, x6, x7, x8, x9, x10, x11, x12, x13, x14, x15], _ => exact ⟨_, _, _, _, _, _, _, _, _, _, _, _, _, _, _, _, rfl⟩
theorem av16 (x0 x1 x2 x3 x4 x5 x6 x7 x8 x9 x10 x11 x12 x13 x14 x15 : Int) : av [x0, x1, x2, x3, x4, x5, x6, x7, x8, x9, x10, x11, x12, x13, x14, x15] = #[.int .u8 x0, .int .u8 x1, .int .u8 x2, .int .u8 x3, .int .u8 x4, .int .u8 x5, .int .u8 x6, .int .u8 x7, .int .u8 x8, .int .u8 x9, .int .u8 x10, .int .u8 x11, .int .u8 x12, .int .u8 x13, .int .u8 x14, .int .u8 x15] := rfl
theorem row16 {w : World} {b : Nat} {xs ys : List Int} {t : TypeId} (h : w.heap[b]? = some (.cells (av xs) t)) : (w.setRow b (av ys)).heap[b]? = some (.cells (av ys) t) := setRow_heap w b _ _ t _ h
theorem fold0 : (#[.int .u8 0, .int .u8 0, .int .u8 0, .int .u8 0, .int .u8 0, .int .u8 0, .int .u8 0, .int .u8 0, .int .u8 0, .int .u8 0, .int .u8 0, .int .u8 0, .int .u8 0, .int .u8 0, .int .u8 0, .int .u8 0] : Array Value) = av zero16 := rfl
theorem ld16 {w : World} {b : Nat} {ds : List Int} {t : TypeId} (h : w.heap[b]? = some (.cells (av ds) t)) (hl : ds.length = 16) : ∃ x0 x1 x2 x3 x4 x5 x6 x7 x8 x9 x10 x11 x12 x13 x14 x15 : Int, (w.cell? ⟨b, 0, none⟩ = some (.int .u8 x0) ∧ w.cell? ⟨b, 1, none⟩ = some (.int .u8 x1) ∧ w.cell? ⟨b, 2, none⟩ = some (.int .u8 x2) ∧ w.cell? ⟨b, 3, none⟩ = some (.int .u8 x3) ∧ w.cell? ⟨b, 4, none⟩ = some (.int .u8 x4) ∧ w.cell? ⟨b, 5, none⟩ = some (.int .u8 x5) ∧ w.cell? ⟨b, 6, none⟩ = some (.int .u8 x6) ∧ w.cell? ⟨b, 7, none⟩ = some (.int .u8 x7) ∧ w.cell? ⟨b, 8, none⟩ = some (.int .u8 x8) ∧ w.cell? ⟨b, 9, none⟩ = some (.int .u8 x9) ∧ w.cell? ⟨b, 10, none⟩ = some (.int .u8 x10) ∧ w.cell? ⟨b, 11, none⟩ = some (.int .u8 x11) ∧ w.cell? ⟨b, 12, none⟩ = some (.int .u8 x12) ∧ w.cell? ⟨b, 13, none⟩ = some (.int .u8 x13) ∧ w.cell? ⟨b, 14, none⟩ = some (.int .u8 x14) ∧ w.cell? ⟨b, 15, none⟩ = some (.int .u8 x15)) ∧ (#[.int .u8 x0, .int .u8 x1, .int .u8 x2, .int .u8 x3, .int .u8 x4, .int .u8 x5, .int .u8 x6, .int .u8 x7, .int .u8 x8, .int .u8 x9, .int .u8 x10, .int .u8 x11, .int .u8 x12, .int .u8 x13, .int .u8 x14, .int .u8 x15] : Array Value) = av ds := by
  obtain ⟨x0, x1, x2, x3, x4, x5, x6, x7, x8, x9, x10, x11, x12, x13, x14, x15, rfl⟩ := list16 ds hl
  refine ⟨_, _, _, _, _, _, _, _, _, _, _, _, _, _, _, _, ⟨by rw [cell_of_row w b 0 _ t _ h]; rfl, by rw [cell_of_row w b 1 _ t _ h]; rfl, by rw [cell_of_row w b 2 _ t _ h]; rfl, by rw [cell_of_row w b 3 _ t _ h]; rfl, by rw [cell_of_row w b 4 _ t _ h]; rfl, by rw [cell_of_row w b 5 _ t _ h]; rfl, by rw [cell_of_row w b 6 _ t _ h]; rfl, by rw [cell_of_row w b 7 _ t _ h]; rfl, by rw [cell_of_row w b 8 _ t _ h]; rfl, by rw [cell_of_row w b 9 _ t _ h]; rfl, by rw [cell_of_row w b 10 _ t _ h]; rfl, by rw [cell_of_row w b 11 _ t _ h]; rfl, by rw [cell_of_row w b 12 _ t _ h]; rfl, by rw [cell_of_row w b 13 _ t _ h]; rfl, by rw [cell_of_row w b 14 _ t _ h]; rfl, by rw [cell_of_row w b 15 _ t _ h]; rfl⟩, rfl⟩
theorem info16 (xs : List Int) (h : xs.length = 16) : (Try.prog.info? 22).map (·.size) = some (av xs).size := by rw [av_size h]; kernel_rfl
theorem wpList_load16 {ops : Array Oper} {rest : List Oper} {o : Oper} {a : Act} {w : World} {Q : Exit → Act → World → Prop} (hgd : o.guard = none) (x : Operand) (ho : o.op = .load 22 x)
    (g : Nat) (xs : List Int) (t : TypeId) (hx : a.eval x = .pointer (some ⟨g, 0, none⟩)) (hg : w.heap[g]? = some (.cells (av xs) t)) (hl : xs.length = 16)
    (h : wpList Try.prog ops Q rest (a.put o.dst (.agg (av xs))) w) : wpList Try.prog ops Q (o :: rest) a w :=
  wpList_plain hgd fun _ hK => wp_load_row 22 x ho g hx t (av xs) (0, 0) (.array 16 5) hg Try.underlying22 rfl (info16 xs hl) (hK _ _ h)
theorem wpList_store16 {ops : Array Oper} {rest : List Oper} {o : Oper} {a : Act} {w : World} {Q : Exit → Act → World → Prop} (hgd : o.guard = none) (x y : Operand) (ho : o.op = .store 22 x y)
    (g : Nat) (xs ys : List Int) (t : TypeId) (hx : a.eval x = .pointer (some ⟨g, 0, none⟩)) (hy : a.eval y = .agg (av ys)) (hg : w.heap[g]? = some (.cells (av xs) t)) (hl : xs.length = 16) (hl' : ys.length = 16)
    (h : wpList Try.prog ops Q rest (a.put o.dst undef) (w.setRow g (av ys))) : wpList Try.prog ops Q (o :: rest) a w :=
  wpList_plain hgd fun _ hK => wp_store_row 22 x y ho g (av ys) hx hy t (av xs) hg (info16 ys hl') (by simp [av, hl, hl']) (one16 ys) (hK _ _ h)
theorem res16 {fn : Func} (h : fn.results = #[.cell 2 22, .tmp 3]) (tmps : Array Value) (w : World) (b : Nat) (xs : List Int) (t : TypeId) (n : Value) (h2 : tmps.getD 2 undef = .pointer (some ⟨b, 0, none⟩)) (h3 : tmps.getD 3 undef = n) (hc : w.heap[b]? = some (.cells (av xs) t)) (hl : xs.length = 16) :
    (results fn tmps).run Try.prog w = .ok (.tuple #[.agg (av xs), n]) w := by
  rw [results_cell_tmp h, h2, h3]
  simp only [asAddr, Sem.run_pure, Result.andThen_ok, run_loadVar_row w b t 22 (av xs) (0, 0) (.array 16 5) hc Try.underlying22 rfl (info16 xs hl)]
end Go.Proofs.Ytbigpcpifbjkfaa
