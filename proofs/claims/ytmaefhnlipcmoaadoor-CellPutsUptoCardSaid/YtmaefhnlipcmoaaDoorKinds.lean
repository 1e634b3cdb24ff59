/- What a kind's cells may have: none, zero, the closures of cell.kinds. Conditions: Go's two tables of utf8 (texts). -/
import Derived.Test.YtmaefhnlipcmoaaDoorName
import Derived.Test.YtmaefhnlipcmoaaDoorCheck
import Derived.Test.YtmaefhnlipcmoaaDoorRefBf
import Derived.Laws.ResultCell
import Derived.Deep.MidRow
namespace Go.Proofs.YtmaefhnlipcmoaaDoor
open Go.RowKit
theorem none_any (s : ByteArray) (w : World) : Calls Tryd.prog 60 #[.string s] w fun e w' => e = .returned (.bool (decide (s = e0))) ∧ w' = w := by
  rw [e0_isE]
  go_enter Tryd.func60, Tryd.ntmps60
  go_wp2
  go_ret
  exact ⟨rfl, rfl⟩
theorem zero_any (n : Int) (w : World) : Calls Tryd.prog 61 #[.int .i64 n] w fun e w' => e = .returned (.bool (decide (n = 0))) ∧ w' = w := by
  rw [← beqD]
  go_enter Tryd.func61, Tryd.ntmps61
  go_wp2
  go_ret
  exact ⟨rfl, rfl⟩
theorem kinds1_any (n : Int) (w : World) : Calls Tryd.prog 62 #[.int .i64 n] w fun e w' => e = .returned (.bool (decide (n = 0) || decide (n = 1))) ∧ w' = w := by
  by_cases h : n = 0
  · subst h
    go_enter Tryd.func62, Tryd.ntmps62
    go_wp2
    go_ret
    exact ⟨rfl, rfl⟩
  · rw [decide_eq_false h, Bool.false_or, ← beqD]
    have h0 : (n == 0) = false := beq_eq_false_iff_ne.2 h
    go_enter Tryd.func62, Tryd.ntmps62
    go_wp2
    go_ret
    exact ⟨rfl, rfl⟩
theorem kinds2_any (n : Int) (w : World) : Calls Tryd.prog 63 #[.int .i64 n] w fun e w' => e = .returned (.bool true) ∧ w' = w := by
  go_enter Tryd.func63, Tryd.ntmps63
  go_wp2
  go_ret
  exact ⟨rfl, rfl⟩
theorem checkV_ok (s : ByteArray) : ((checkV s : Int) == 0) = textOk s := by
  unfold checkV textOk
  by_cases h : 16384 < s.size
  · rw [if_pos h, decide_eq_false (by omega)]; rfl
  · rw [if_neg h, decide_eq_true (by omega), Bool.true_and]
    cases Lib.validD s.data.toList <;> rfl
theorem kinds3_any (s : ByteArray) (w : World) (hs : s.size ≤ maxLen) (hT : Tabs w) : Calls Tryd.prog 64 #[.string s] w fun e w' => e = .returned (.bool (textOk s)) ∧ Below w.heap.size w w' := by
  have hc := check_any s w hs hT
  rw [← checkV_ok]
  go_enter Tryd.func64, Tryd.ntmps64
  go_wp2_with fail
  refine hc.mono ?_
  rintro e w1 ⟨rfl, hb1⟩
  go_wp2
  go_ret
  exact ⟨rfl, hb1⟩
def fv (n : Nat) : Value := .func (.func n) #[] #[]
/-- what cell.kinds answers, cell by cell -/
def kindsA : Array Value := #[fv 60, fv 61, .bool false, fv 60, fv 62, .bool false, fv 60, fv 63, .bool false,
  fv 64, fv 61, .bool false, fv 65, fv 61, .bool false, fv 65, fv 61, .bool false,
  fv 60, fv 61, .bool true, fv 60, fv 61, .bool true]
theorem kinds_one : kindsA.all (·.oneCell') = true := by kernel_rfl
theorem kinds_info : (Tryd.prog.info? 78).map (·.size) = some kindsA.size := by kernel_rfl
theorem wpList_storeK {ops : Array Oper} {rest : List Oper} {o : Oper} {a : Act} {w : World} {Q : Exit → Act → World → Prop} (hgd : o.guard = none) (x y : Operand) (ho : o.op = .store 78 x y)
    (g : Nat) (xs : Array Value) (t : TypeId) (hx : a.eval x = .pointer (some ⟨g, 0, none⟩)) (hy : a.eval y = .agg kindsA) (hg : w.heap[g]? = some (.cells xs t)) (hl : xs.size = 24)
    (h : wpList Tryd.prog ops Q rest (a.put o.dst undef) (w.setRow g kindsA)) : wpList Tryd.prog ops Q (o :: rest) a w :=
  wpList_plain hgd fun _ hK => wp_store_row 78 x y ho g kindsA hx hy t xs hg kinds_info hl kinds_one (hK _ _ h)
theorem wpList_storeK2 {ops : Array Oper} {rest : List Oper} {o : Oper} {a : Act} {w : World} {Q : Exit → Act → World → Prop} (hgd : o.guard = none) (x y : Operand) (ho : o.op = .store 78 x y)
    (g : Nat) (xs : Array Value) (t : TypeId) (hx : a.eval x = .pointer (some ⟨g, 0, none⟩)) (hy : a.eval y = .agg kindsA) (hg : w.heap[g]? = some (.cells xs t)) (hl : xs.size = 24)
    (h : ∀ w', w'.heap[g]? = some (.cells kindsA t) → w.grownBy w' (some g) → wpList Tryd.prog ops Q rest (a.put o.dst undef) w') : wpList Tryd.prog ops Q (o :: rest) a w :=
  wpList_storeK hgd x y ho g xs t hx hy hg hl (h _ (setRow_heap _ _ _ _ _ _ hg) ⟨rfl, rfl, rfl, by simp [World.setRow], fun k _ hn => setRow_other _ _ _ _ (fun e => hn (by rw [e]))⟩)
theorem resK {fn : Func} (h : fn.results = #[.cell 0 78]) (tmps : Array Value) (w : World) (b : Nat) (t : TypeId) (h0 : tmps.getD 0 undef = .pointer (some ⟨b, 0, none⟩)) (hc : w.heap[b]? = some (.cells kindsA t)) :
    (results fn tmps).run Tryd.prog w = .ok (.agg kindsA) w := by
  have h1 : tmps[0]?.getD undef = .pointer (some ⟨b, 0, none⟩) := by simpa using h0
  simp only [results, h]
  simp [h1, asAddr, run_loadVar_row w b t 78 kindsA (0, 0) (.array 8 77) hc Tryd.underlying78 rfl kinds_info]
theorem below_setRow {B b : Nat} {w w' : World} (h : Below B w w') (hb : B ≤ b) (c : Array Value) : Below B w (w'.setRow b c) := by
  refine h.trans ⟨rfl, rfl, rfl, by simp [World.setRow], fun j hj => ?_⟩
  simp only [World.setRow, Array.getElem?_modify]
  rw [if_neg (by omega)]
theorem kinds_any (w : World) : Calls Tryd.prog 53 #[] w fun e w' => e = .returned (.agg kindsA) ∧ Below w.heap.size w w' := by
  go_enter Tryd.func53, Tryd.ntmps53
  go_wp2_with (refine wpList_storeK (by rfl) (.tmp 0) (.tmp 9) (by rfl) w.heap.size _ _ (by rfl) (by rfl) (heap_alloc_new _ _) (by rfl) ?_)
  exact bodyPost_ret (resK Tryd.results53 _ _ w.heap.size _ rfl (setRow_heap _ _ _ _ _ _ (heap_alloc_new _ _))) rfl ⟨rfl, below_setRow ((Below.refl _ _).alloc (Nat.le_refl _) _) (Nat.le_refl _) _⟩
end Go.Proofs.YtmaefhnlipcmoaaDoor
