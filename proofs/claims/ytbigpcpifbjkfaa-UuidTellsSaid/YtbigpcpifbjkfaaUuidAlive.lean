/- The law's own helpers: alive, none. Conditions: none; none's text tells no UUID. -/
import Derived.Test.YtbigpcpifbjkfaaUuidLoad
namespace Go.Proofs.Ytbigpcpifbjkfaa
open Go.RowKit Go.ChangeShapes Go.WideShapes Go.ChangeAt
theorem wpList_load16g {ops : Array Oper} {rest : List Oper} {o : Oper} {a : Act} {w : World} {Q : Exit → Act → World → Prop} (hgd : Region.wanted o (yielded ops a.tmps) = true) (x : Operand) (ho : o.op = .load 22 x)
    (g : Nat) (xs : List Int) (t : TypeId) (hx : a.eval x = .pointer (some ⟨g, 0, none⟩)) (hg : w.heap[g]? = some (.cells (av xs) t)) (hl : xs.length = 16)
    (h : wpList Try.prog ops Q rest (a.put o.dst (.agg (av xs))) w) : wpList Try.prog ops Q (o :: rest) a w :=
  BigFrame.wpList_want hgd fun _ hK => wp_load_row 22 x ho g hx t (av xs) (0, 0) (.array 16 5) hg Try.underlying22 rfl (info16 xs hl) (hK _ _ h)
theorem put16 {w1 : World} (xs : List Int) {w : World} (hB : Below w.heap.size w w1) : let W := (w1.alloc (.cells (av zero16) 22)).setRow w1.heap.size (av xs)
    Below w.heap.size w W ∧ Below w1.heap.size w1 W ∧ W.heap[w1.heap.size]? = some (.cells (av xs) 22) ∧ w1.heap.size < W.heap.size := by
  have c3 : (w1.alloc (.cells (av zero16) 22)).heap[w1.heap.size]? = some (.cells (av zero16) 22) := heap_alloc_new _ _
  have h1 : Below w1.heap.size w1 ((w1.alloc (.cells (av zero16) 22)).setRow w1.heap.size (av xs)) := below_setRow ((Below.refl _ _).alloc (Nat.le_refl _) _) (Nat.le_refl _) _
  have h2 := row16 (ys := xs) c3
  exact ⟨hB.trans (h1.mono hB.size), h1, h2, (Array.getElem?_eq_some_iff.1 h2).1⟩
theorem parsed_a : parsed ⟨#[48, 48, 48, 48, 48, 48, 48, 48, 45, 48, 48, 48, 48, 45, 48, 48, 48, 48, 45, 48, 48, 48, 48, 45, 48, 48, 48, 48, 48, 48, 48, 48, 48, 48, 48, 48]⟩ = (zero16, 0) := by decide +kernel
theorem parsed_b : parsed ⟨#[48, 49, 50, 51, 65, 66, 67, 68, 45, 52, 53, 54, 55, 45, 56, 57, 101, 102, 45, 48, 48, 48, 48, 45, 48, 48, 48, 48, 48, 48, 48, 48, 48, 48, 102, 102]⟩ = ([1, 35, 171, 205, 69, 103, 137, 239, 0, 0, 0, 0, 0, 0, 0, 255], 0) := by decide +kernel
theorem alive_any (w : World) : Calls Try.prog 7 #[] w fun e w' => e = .returned (.bool true) ∧ Below w.heap.size w w' := by
  have hl0 : zero16.length = 16 := rfl
  have hz16 := fold0
  have hlb : ([1, 35, 171, 205, 69, 103, 137, 239, 0, 0, 0, 0, 0, 0, 0, 255] : List Int).length = 16 := rfl
  go_enter Try.func7, Try.ntmps7
  go_wp2_with fail
  refine (parse_any _ _).mono ?_
  rintro e w1 ⟨rfl, hb1⟩
  rw [parsed_a]
  simp only
  have z1 : (w1.alloc (.cells (av zero16) 22)).heap[w1.heap.size]? = some (.cells (av zero16) 22) := heap_alloc_new _ _
  obtain ⟨hB2, hb2, c2, hw2⟩ := put16 zero16 hb1
  obtain ⟨W2, hW2⟩ : ∃ W2, (w1.alloc (.cells (av zero16) 22)).setRow w1.heap.size (av zero16) = W2 := ⟨_, rfl⟩
  rw [hW2] at hB2 hb2 c2 hw2
  go_wp2_with (first | (refine wpList_store16 rfl _ _ rfl w1.heap.size zero16 zero16 22 rfl rfl z1 hl0 hl0 ?_))
  clear hW2 z1
  refine (parse_any _ _).mono ?_
  rintro e w3 ⟨rfl, hb3⟩
  rw [parsed_b]
  simp only
  obtain ⟨xb, hxb⟩ : ∃ xb : List Int, xb = [1, 35, 171, 205, 69, 103, 137, 239, 0, 0, 0, 0, 0, 0, 0, 255] := ⟨_, rfl⟩
  have hlx : xb.length = 16 := by rw [hxb]; rfl
  have hf : ((((((((((av zero16).setIfInBounds 0 (.int .u8 1)).setIfInBounds 1 (.int .u8 35)).setIfInBounds 2 (.int .u8 171)).setIfInBounds 3 (.int .u8 205)).setIfInBounds 4 (.int .u8 69)).setIfInBounds 5 (.int .u8 103)).setIfInBounds 6 (.int .u8 137)).setIfInBounds 7 (.int .u8 239)).setIfInBounds 15 (.int .u8 255)) = av xb := by rw [hxb]; rfl
  rw [← hxb]
  clear hxb hlb
  have hs3 := hb3.size
  replace c2 : w3.heap[w1.heap.size]? = some (.cells (av zero16) 22) := by rw [hb3.block _ (by omega)]; exact c2
  have hB3 : Below w.heap.size w w3 := hB2.trans (hb3.mono hB2.size)
  have z3 : (w3.alloc (.cells (av zero16) 22)).heap[w3.heap.size]? = some (.cells (av zero16) 22) := heap_alloc_new _ _
  obtain ⟨hB4, hb4, c4, hw4⟩ := put16 xb hB3
  replace c2 : ((w3.alloc (.cells (av zero16) 22)).setRow w3.heap.size (av xb)).heap[w1.heap.size]? = some (.cells (av zero16) 22) := by rw [hb4.block _ (by omega)]; exact c2
  clear hb3 hb4 hB2 hb2 hB3
  go_wp2_with (first | (refine wpList_store16 rfl _ _ rfl w3.heap.size zero16 xb 22 rfl rfl z3 hl0 hlx ?_) | (refine wpList_load16g rfl _ rfl w1.heap.size zero16 22 rfl c2 hl0 ?_) | (refine wpList_load16g rfl _ rfl w3.heap.size xb 22 rfl c4 hlx ?_))
  go_ret
  exact ⟨ret_bool (by simp), hB4⟩
theorem none_any (s : ByteArray) (w : World) (hp : parsed s = (zero16, 130)) : Calls Try.prog 11 #[.string s] w fun e w' => e = .returned (.bool true) ∧ Below w.heap.size w w' := by
  have hl0 : zero16.length = 16 := rfl
  have hz16 := fold0
  have hcan : canon s = ⟨#[]⟩ := by rw [canon, hp]; rfl
  go_enter Try.func11, Try.ntmps11
  go_wp2_with fail
  refine (parse_any _ _).mono ?_
  rintro e w1 ⟨rfl, hb1⟩
  rw [hp]
  simp only
  have z1 : (w1.alloc (.cells (av zero16) 22)).heap[w1.heap.size]? = some (.cells (av zero16) 22) := heap_alloc_new _ _
  obtain ⟨hB2, hb2, c2, hw2⟩ := put16 zero16 hb1
  obtain ⟨W2, hW2⟩ : ∃ W2, (w1.alloc (.cells (av zero16) 22)).setRow w1.heap.size (av zero16) = W2 := ⟨_, rfl⟩
  rw [hW2] at hB2 hb2 c2 hw2
  go_wp2_with (first | (refine wpList_store16 rfl _ _ rfl w1.heap.size zero16 zero16 22 rfl rfl z1 hl0 hl0 ?_))
  clear hW2 z1
  refine (canon_any _ _).mono ?_
  rintro e w3 ⟨rfl, hb3⟩
  rw [hp, hcan]
  simp only
  replace c2 : w3.heap[w1.heap.size]? = some (.cells (av zero16) 22) := by rw [hb3.block _ (by omega)]; exact c2
  have hB3 : Below w.heap.size w w3 := hB2.trans (hb3.mono hB2.size)
  go_wp2_with (first | (refine wpList_load16g rfl _ rfl w1.heap.size zero16 22 rfl c2 hl0 ?_))
  go_ret
  exact ⟨ret_bool (by simp), hB3⟩
end Go.Proofs.Ytbigpcpifbjkfaa
