/- Arrays of sixteen bytes: as ranges of cells, and whether two are alike. Conditions: none. -/
import Derived.Test.YtbigpcpifbjkfaaUuidCanon
import Derived.Stop.BytesEq
import Derived.Deep.MidRow
namespace Go.Proofs.Ytbigpcpifbjkfaa
open Go.RowKit Go.ChangeShapes Go.WideShapes Go.ChangeAt
theorem range16 {w : World} {b : Nat} {xs : List Int} {t : TypeId} (h : w.heap[b]? = some (.cells (av xs) t)) : w.rangeAt b 0 (av xs).toList := by
  intro j v hv
  rw [Nat.zero_add, cell_of_row w b j _ t _ h]
  simpa using hv
theorem range_keep {w w' : World} {b : Nat} {cs : List Value} (h : w.rangeAt b 0 cs) (hb : Below w.heap.size w w') (hlt : b < w.heap.size) : w'.rangeAt b 0 cs := by
  intro j v hv
  rw [← h j v hv]
  exact hb.cell hlt
theorem all_eq : ∀ (xs ys : List Int), xs.length = ys.length → ((List.range xs.length).all fun i => xs.getD i 0 == ys.getD i 0) = (xs == ys)
  | [], [], _ => rfl
  | x :: xs, y :: ys, h => by
    have ih := all_eq xs ys (by simpa using h)
    rw [List.length_cons, List.range_succ_eq_map, List.all_cons, List.all_map]
    simp only [List.getD_cons_zero, Function.comp_def, List.getD_cons_succ, ih]
    simp [List.cons_beq_cons]
  | [], _ :: _, h => by simp at h
  | _ :: _, [], h => by simp at h
theorem eq16' (w : World) (xs ys : List Int) (hx : xs.length = 16) (hy : ys.length = 16) :
    (Op.equalIn 10000 22 (.agg (av xs)) (.agg (av ys))).run Try.prog w = .ok (xs == ys) w := by
  rw [← all_eq xs ys (hx.trans hy.symm), hx, List.range_eq_range']
  show (Op.equalIn (9998 + 2) 22 (.agg (av xs)) (.agg (av ys))).run Try.prog w = _
  rw [Op.equalIn]
  have hsz : ∀ w, (Go.sizeOf 5).run Try.prog w = .ok 1 w := fun w => Try.sizeOf5 w
  simp only [Sem.run_bind, run_underlying Try.underlying22, Result.andThen_ok, hsz, Std.Legacy.Range.forIn_eq_forIn_range', Std.Legacy.Range.size, Nat.sub_zero, Nat.add_sub_cancel, Nat.div_one]
  have hl : ∀ i ∈ List.range' 0 16 1, i < 16 := fun i hi => by simpa using (List.mem_range'_1.1 hi).2
  generalize List.range' 0 16 1 = l at hl ⊢
  induction l with
  | nil => simp
  | cons i l ih =>
    have hi : i < 16 := hl i (by simp)
    have px : (Go.part 5 (av xs) (i * 1)).run Try.prog w = .ok (.int .u8 (xs.getD i 0)) w := by
      simp [Go.part, Go.isAgg, run_underlying Try.underlying5, av, List.getD, List.getElem?_eq_getElem (show i < xs.length by omega)]
    have py : (Go.part 5 (av ys) (i * 1)).run Try.prog w = .ok (.int .u8 (ys.getD i 0)) w := by
      simp [Go.part, Go.isAgg, run_underlying Try.underlying5, av, List.getD, List.getElem?_eq_getElem (show i < ys.length by omega)]
    have pe : (Op.equalIn (9998 + 1) 5 (.int .u8 (xs.getD i 0)) (.int .u8 (ys.getD i 0))).run Try.prog w = .ok (xs.getD i 0 == ys.getD i 0) w :=
      run_equalIn_int w 9998 5 .u8 .u8 _ _ Try.underlying5
    simp only [List.forIn_cons, Sem.run_bind, px, py, pe, Result.andThen_ok, List.all_cons]
    cases hb : (xs.getD i 0 == ys.getD i 0)
    · simp
    · simp only [Bool.not_true, Bool.false_eq_true, if_false, Sem.run_pure, Result.andThen_ok, Bool.true_and]
      exact ih fun j hj => hl j (by simp [hj])
@[go_sem] theorem eq16 (w : World) (xs ys : List Int) (hx : xs.length = 16) (hy : ys.length = 16) :
    (Op.equalIn 10000 22 (.agg (av xs)) (.agg (av ys))).run Try.prog w = .ok (xs == ys) w := eq16' w xs ys hx hy
theorem len16 {xs : List Int} (h : xs.length = 16) : (Try.prog.info? 22).map (·.size) = some (av xs).toList.length := by rw [info16 xs h]; simp
end Go.Proofs.Ytbigpcpifbjkfaa
