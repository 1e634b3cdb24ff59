/- lit.put.add: one token more. Conditions: few tokens. -/
import Derived.Test.YtgoecnhkmfnenaaLex
import Derived.Test.YtgoecnhkmfnenaaApp
import Derived.ArgAppend
import Derived.Deep.RegionHeld3
import Derived.Deep.RegionLaw
import Derived.Deep.DeepCutAuto
namespace Go.Proofs.Ytgoecnhkmfnenaa
open Go.RowKit
theorem step_append_full {P : Program} {ops : Array Oper} {o : Oper} {a : Act} {w : World} {K : Act → World → Prop} {Q : Exit → Act → World → Prop} {E : Prop}
    (hg : o.guard = none) (s x : Operand) (t : TypeId) (hop : o.op = Op.call { callee := Callee.builtin Builtin.append, args := #[s, x], argTypes := #[t, t] })
    (e : TypeId) (i : TypeInfo) (z : Value) (size bytes : Nat) (h1 : P.underlying t = some (.slice e)) (h2 : P.info? e = some i) (h3 : i.zero = some z) (h4 : i.size = size) (h5 : i.bytes = bytes) (h6 : z.cells.size = size) (h7 : 0 < size)
    (ao : Option Addr) (n : Nat) (olds : List Value) (hs : a.eval s = .slice ao n n) (hnone : ao = none → n = 0) (hlo : olds.length = n * size) (holds : ∀ b, ao = some b → ∀ j u, olds[j]? = some u → w.cell? (b.add j) = some u)
    (ad : Addr) (m c : Nat) (news : List Value) (hx : a.eval x = .slice (some ad) m c) (hn : news.length = m * size) (hc : ∀ j u, news[j]? = some u → w.cell? (ad.add j) = some u) (h1c : ∀ u ∈ news, u.oneCell' = true)
    (hfull : 0 < m) (b1 : n + m ≤ maxLen) (b2 : (n + m) * bytes ≤ 140737488355328)
    (hK : ∀ v' w', w'.ownsRow w.heap.size e size v' (n + m) (olds ++ news) → w.grownBy w' none → K (a.put o.dst v') w') :
    if Region.wanted o (yielded ops a.tmps) = true then Oper.wp P o a w K Q else E := by
  have hw : Region.wanted o (yielded ops a.tmps) = true := by simp [Region.wanted, hg]
  rw [if_pos hw]
  cases ao with
  | some b =>
    obtain ⟨v', w', hrun, r1, r2⟩ := run_append_arg_grows (P := P) w t o.type e i z size bytes h1 h2 h3 h4 h5 h6 h7 b n n olds hlo (holds b rfl) ad m c news hn hc (by omega) b1 b2
    unfold Oper.wp
    simp [execOp, hop, resolve, invoke, builtin, hs, hx, hrun, Result.andThen]
    exact hK v' w' r1 r2
  | none =>
    obtain rfl := hnone rfl
    obtain rfl : olds = [] := List.eq_nil_of_length_eq_zero (by simpa using hlo)
    obtain ⟨v', w', hrun, r1, r2, _⟩ := run_append_own (P := P) w w.heap.size t o.type e i z size bytes h1 h2 h3 h4 h5 h6 h7 (.slice none 0 0) 0 [] (World.ownsRow_nil w _ e size) ad m c news hn hc h1c b1 b2 (Nat.le_refl _)
    unfold Oper.wp
    simp [execOp, hop, resolve, invoke, builtin, hs, hx, hrun, Result.andThen]
    exact hK v' w' r1 r2
/-- tokens, in a variable -/
def PutIs (w : World) (g n : Nat) : Prop :=
  ∃ (A : Option Addr) (c : Nat) (olds : List Value), w.cell? ⟨g, 0, none⟩ = some (.slice A n c) ∧ w.frozen? ⟨g, 0, none⟩ = false ∧ n ≤ c ∧ c ≤ maxLen ∧ olds.length = n * 3 ∧
    (A = none → n = 0) ∧ ∀ b, A = some b → ∀ j u, olds[j]? = some u → w.cell? (b.add j) = some u
theorem info_tok : (Try.prog.info? 90).map (fun i => (i.zero, i.size, i.bytes)) = some (some (.agg #[.int .u8 0, .string ⟨#[]⟩, .int .i64 0]), 3, 32) := by kernel_rfl
theorem lit_cells (w : World) (L : Array Value) (j : Nat) (u : Value) (h : L.toList[j]? = some u) : (w.alloc (.cells L 90)).cell? ((⟨w.heap.size, 0, none⟩ : Addr).add j) = some u := by
  rw [Addr.add_lit, Nat.zero_add]
  have e : (w.alloc (.cells L 90)).heap[w.heap.size]? = some (.cells L 90 (0, 0)) := heap_alloc_new _ _
  simp only [World.cell?, e]
  rw [← Array.getElem?_toList]
  exact h
theorem gr_trans {a b c : World} {r : Option Nat} (h : a.grownBy b none) (k : b.grownBy c r) : a.grownBy c r :=
  ⟨k.os.trans h.os, k.tape.trans h.tape, k.output.trans h.output, Nat.le_trans h.size k.size, fun i hi hne => (k.block i (Nat.lt_of_lt_of_le hi h.size) hne).trans (h.block i hi (by simp))⟩
theorem lit_cells' (w : World) (L : Array Value) (j : Nat) (u : Value) (h : L.toList[j]? = some u) : (w.alloc (.cells L 90)).drew.cell? ((⟨w.heap.size, 0, none⟩ : Addr).add j) = some u := lit_cells w L j u h
theorem hold_lit {w : World} {A : Option Addr} {olds : List Value} (o : Obj) (p : ∀ b, A = some b → ∀ (j : Nat) u, olds[j]? = some u → w.cell? (b.add j) = some u) : ∀ b, A = some b → ∀ (j : Nat) u, olds[j]? = some u → (w.alloc o).cell? (b.add j) = some u :=
  fun b hb j u hj => (World.grownBy_alloc w o none).cell (p b hb j u hj) (by simp)
theorem hold_lit' {w : World} {A : Option Addr} {olds : List Value} (o : Obj) (p : ∀ b, A = some b → ∀ (j : Nat) u, olds[j]? = some u → w.cell? (b.add j) = some u) : ∀ b, A = some b → ∀ (j : Nat) u, olds[j]? = some u → (w.alloc o).drew.cell? (b.add j) = some u := hold_lit o p
theorem lit_one (k : Nat) (s : ByteArray) : ∀ u ∈ [Value.int .u8 k, .string s, .int .i64 0], u.oneCell' = true := by
  intro u hu
  simp at hu
  rcases hu with rfl | rfl | rfl <;> rfl
theorem gr_lit {w w3 : World} {L : Array Value} (h : (w.alloc (.cells L 90)).grownBy w3 none) : w.grownBy w3 none := gr_trans (World.grownBy_alloc w _ none) h
theorem gr_lit' {w w3 : World} {L : Array Value} (h : (w.alloc (.cells L 90)).drew.grownBy w3 none) : w.grownBy w3 none := gr_trans (World.grownBy_alloc w _ none) ⟨h.os, h.tape, h.output, h.size, h.block⟩
theorem own_tok {w w2 w3 : World} {n : Nat} {v : Value} {L : List Value} (_ : w.grownBy w3 none) (hown : w3.ownsRow w2.heap.size 90 3 v (n + 1) L) (hw : w.heap.size ≤ w2.heap.size) :
    ∃ g3 c3, v = .slice (some ⟨g3, 0, none⟩) (n + 1) c3 ∧ w.heap.size ≤ g3 ∧ w3.ownsRow w.heap.size 90 3 (.slice (some ⟨g3, 0, none⟩) (n + 1) c3) (n + 1) L := by
  obtain ⟨h1, ⟨_, h2⟩ | ⟨g, cap, cur, rfl, h3, h4⟩⟩ := hown
  · omega
  · exact ⟨g, cap, rfl, by omega, h1, .inr ⟨g, cap, cur, rfl, by omega, h4⟩⟩
theorem frozen_grown {w w3 : World} {a : Addr} {v : Value} (hG : w.grownBy w3 none) (h : w.cell? a = some v) (hf : w.frozen? a = false) : w3.frozen? a = false := by
  rw [World.frozen?_of_block (hG.block _ (World.block_lt_of_cell? w a h) (by simp))]
  exact hf
theorem put_next {w w3 : World} {g g3 c3 n : Nat} {u : Value} {L : List Value} (hG : w.grownBy w3 none) (p1 : w.cell? ⟨g, 0, none⟩ = some u) (p2 : w.frozen? ⟨g, 0, none⟩ = false) (hg3 : w.heap.size ≤ g3)
    (hown : w3.ownsRow w.heap.size 90 3 (.slice (some ⟨g3, 0, none⟩) (n + 1) c3) (n + 1) L) :
    PutIs (w3.setCell ⟨g, 0, none⟩ (.slice (some ⟨g3, 0, none⟩) (n + 1) c3)) g (n + 1) ∧ w.grownBy (w3.setCell ⟨g, 0, none⟩ (.slice (some ⟨g3, 0, none⟩) (n + 1) c3)) (some g) := by
  have hlt := World.block_lt_of_cell? w _ p1
  simp only at hlt
  have hs := hG.size
  have k0 := hG.cell p1 (by simp)
  have k1 := frozen_grown hG p1 p2
  refine ⟨⟨_, c3, L, World.cell?_setCell_same _ _ _ k0, (by rw [World.frozen?_setCell]; exact k1), ?_, ?_, hown.1, (fun h => by cases h), fun b hb j u hj => ?_⟩, ?_⟩
  · obtain ⟨A, c, e, h1, h2⟩ := own_slice hown
    cases e
    exact h1
  · obtain ⟨A, c, e, h1, h2⟩ := own_slice hown
    cases e
    exact h2
  · cases hb
    rw [Addr.add_lit, Nat.zero_add]
    rw [World.cell?_setCell_far _ _ _ _ (show g ≠ g3 by omega)]
    obtain ⟨h1, ⟨h2, _⟩ | ⟨g', cap, cur, h2, h3, h4, h5, h6, h7, h8⟩⟩ := hown
    · cases h2
    · cases h2
      subst h8
      simp only [World.cell?, h4]
      rw [List.getElem?_take] at hj
      split at hj
      · simpa using hj
      · cases hj
  · refine ⟨hG.os, hG.tape, hG.output, by simpa using hs, fun k hk hne => ?_⟩
    rw [← hG.block k hk (by simp)]
    have : k ≠ g := fun e => hne (by rw [e])
    simp [World.setCell, Array.getElem?_modify]
    intro e
    omega
set_option maxRecDepth 100000 in
set_option maxHeartbeats 4000000 in
theorem add_any (g k b n : Nat) (s : ByteArray) (w : World) (hp : PutIs w g n) (hn : n ≤ 100) (hb : w.cell? ⟨b, 0, none⟩ = some (.string s)) (hbg : b ≠ g) :
    Calls Try.prog 28 #[.pointer (some ⟨g, 0, none⟩), .int .u8 k, .slice (some ⟨b, 0, none⟩) 1 1] w fun e w' => (∃ v, e = .returned v) ∧ PutIs w' g (n + 1) ∧ w.grownBy w' (some g) := by
  obtain ⟨i0, hi, hz0, hz1, hz2⟩ := info_parts info_tok
  obtain ⟨A, c, olds, p1, p2, p4, p5, p6, p7, p8⟩ := hp
  have p4' : (n : Int) ≤ c := by omega
  have p3 : g < w.heap.size := World.block_lt_of_cell? w _ p1
  have hsl : ∀ W, (Instr.slice 37 (.slice A n c) none (some (.int .i64 n)) (some (.int .i64 n))).run Try.prog W = .ok (.slice A n n) W := by
    intro W
    go_simp
  go_enter Try.func28, Try.ntmps28
  go_wp2
  go_loopw [10] (fun i wr => (i = .int .i64 0 ∧ wr = w) ∨ (i = .int .i64 1 ∧ PutIs wr g (n + 1) ∧ w.grownBy wr (some g))) (fun i _ => 1 - (intOf i).toNat)
  case atStart => exact .inl ⟨rfl, rfl⟩
  case round =>
    rcases hrel with ⟨rfl, rfl⟩ | ⟨rfl, hq, hgr⟩
    · go_upto_region 3 with fail
      go_region_law (((refine step_append_full (by rfl) _ _ _ (by rfl) 90 i0 (.agg #[.int .u8 0, .string ⟨#[]⟩, .int .i64 0]) 3 32 Try.underlying37 hi hz0 hz1 hz2 (by rfl) (by decide) A n olds (by rfl) p7 p6 (by intro bb hbb j u hj; first | exact hold_lit _ p8 bb hbb j u hj | exact hold_lit' _ p8 bb hbb j u hj) ⟨wr.heap.size, 0, none⟩ 1 1 [.int .u8 k, .string s, .int .i64 0] (by rfl) (by rfl) (by first | exact lit_cells wr _ | exact lit_cells' wr _) (lit_one k s) (by decide) (by unfold maxLen; omega) (by omega) ?_; intro v3 w3 hown hgrow; have hG : wr.grownBy w3 none := (by first | exact gr_lit hgrow | exact gr_lit' hgrow); obtain ⟨g3, c3, rfl, hg3, hown3⟩ := own_tok hG hown (by simp); have k0 := hG.cell p1 (by simp); have k1 := frozen_grown hG p1 p2)))
      all_goals
        have hnext := put_next hG p1 p2 hg3 hown3
        clear hb p1 p2 p8 hown hown3 k0 k1 hgrow hG
        go_wp2
        go_roundw
        case rel => exact .inr ⟨rfl, hnext⟩
        case measure => decide
    · go_wp2
      go_end0
      exact ⟨⟨_, rfl⟩, hq, hgr⟩
end Go.Proofs.Ytgoecnhkmfnenaa
