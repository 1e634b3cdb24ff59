/- slices.Insert and slices.Delete at records, over rows that the call owns. Conditions: at most 1,000 records. slices.Delete at records, over rows that the call owns. Conditions: at most 1,000 records. table.begun, table.Get. Conditions: lengths within the model's; Go's two tables of utf8. -/
import Derived.Test.YtcgioepbooafcaaGreatDoorMTwin
import Derived.Lib.AppendZerosOnto
import Derived.Deep.RegionLaw
namespace Go.Proofs.YtcgioepbooafcaaGreatDoor
section
open Go.RowKit
theorem sz_rec (w : World) : (sizeOf 28).run Tryz.prog w = .ok 2 w := Tryz.sizeOf28 w
theorem run_copyT {P : Program} (w : World) (dT sT elem : TypeId) (dp sp : Option Addr) (dLen dCap sLen sCap : Nat) (g off : Nat) (cur : List Value) (t : TypeId) (cs : List Value) (k n : Nat)
    (hu : P.underlying dT = some (.slice elem)) (hs : (P.info? elem).map (·.size) = some k)
    (hg : w.heap[g]? = some (.cells cur.toArray t (0, 0))) (hn : n = Nat.min sLen dLen) (hlen : cs.length = n * k)
    (hpos : 0 < n → dp = some ⟨g, off, none⟩ ∧ ∃ ad, sp = some ad ∧ ∀ j v, cs[j]? = some v → w.cell? (ad.add j) = some v)
    (hfit : off + cs.length ≤ cur.length) (h1 : ∀ v ∈ cs, v.oneCell' = true) :
    ∃ w', (∀ ty, (Builtin.copy_ #[dT, sT] ty #[.slice dp dLen dCap, .slice sp sLen sCap]).run P w = .ok (goInt n) w') ∧ w'.heap[g]? = some (.cells (splice cur off cs).toArray t (0, 0)) ∧ w.grownBy w' (some g) := by
  by_cases h0 : n = 0
  · subst h0
    obtain rfl : cs = [] := List.eq_nil_of_length_eq_zero (by omega)
    exact ⟨w, fun ty => run_copy_noneK w dT sT ty elem dp sp dLen dCap sLen sCap k hu hs hn.symm, by simpa [splice] using hg, ⟨rfl, rfl, rfl, Nat.le_refl _, fun _ _ _ => rfl⟩⟩
  · obtain ⟨rfl, ad, rfl, hsrc⟩ := hpos (by omega)
    refine ⟨_, fun ty => run_copy_rowK w dT sT ty elem g off dLen dCap ad sLen sCap cur.toArray t cs k n hu hs hg hn hlen hsrc (by simpa using hfit) h1, by simpa [splice] using setRow_heap w g _ _ t _ hg, ⟨rfl, rfl, rfl, by simp [World.setRow], fun i _ hne => setRow_other w g i _ (fun e => hne (by rw [e]))⟩⟩
theorem wpList_copy_eq {P : Program} (w : World) {ops : Array Oper} {rest : List Oper} {o : Oper} {a : Act} {Q : Exit → Act → World → Prop} (hgd : o.guard = none) (d s : Operand) (dT sT : TypeId)
    (ho : o.op = .call { callee := .builtin .copy, args := #[d, s], argTypes := #[dT, sT] }) (vd vs : Value) (hd : a.eval d = vd) (hs : a.eval s = vs) (v' : Value) (w' : World)
    (hr : (Builtin.copy_ #[dT, sT] o.type #[vd, vs]).run P w = .ok v' w') (h : wpList P ops Q rest (a.put o.dst v') w') : wpList P ops Q (o :: rest) a w := by
  refine wpList_plain hgd fun K hK => ?_
  unfold Oper.wp
  simp [execOp, ho, resolve, invoke, builtin, hd, hs, hr, Result.andThen]
  exact hK _ _ h
theorem step_copy_eq {P : Program} {ops : Array Oper} {o : Oper} {a : Act} {w : World} {K : Act → World → Prop} {Q : Exit → Act → World → Prop} {E : Prop} (hgd : o.guard = none) (d s : Operand) (dT sT : TypeId)
    (ho : o.op = .call { callee := .builtin .copy, args := #[d, s], argTypes := #[dT, sT] }) (vd vs : Value) (hd : a.eval d = vd) (hs : a.eval s = vs) {v' : Value} {w' : World}
    (hr : (Builtin.copy_ #[dT, sT] o.type #[vd, vs]).run P w = .ok v' w') (h : K (a.put o.dst v') w') :
    if Region.wanted o (yielded ops a.tmps) = true then Oper.wp P o a w K Q else E := by
  have hw : Region.wanted o (yielded ops a.tmps) = true := by simp [Region.wanted, hgd]
  rw [if_pos hw]
  unfold Oper.wp
  simp [execOp, ho, resolve, invoke, builtin, hd, hs, hr, Result.andThen]
  exact h
theorem ins_splice {L vs : List Value} {i n c : Nat} {a b : Value} (hL : L.length = c * 2) (hv : vs.length = n * 2) (hi : i < n) (hc : n + 1 ≤ c) (ht : L.take (i * 2) = vs.take (i * 2)) :
    (splice (splice L (i * 2) [a, b]) ((i + 1) * 2) (vs.drop (i * 2))).take ((n + 1) * 2) = vs.take (i * 2) ++ [a, b] ++ vs.drop (i * 2) := by
  have h1 : (L.take (i * 2)).length = i * 2 := by rw [List.length_take]; omega
  have h2 : (vs.drop (i * 2)).length = n * 2 - i * 2 := by rw [List.length_drop, hv]
  have h3 : (splice L (i * 2) [a, b]).take ((i + 1) * 2) = vs.take (i * 2) ++ [a, b] := by
    unfold splice
    rw [← List.append_assoc, List.take_append_of_le_length (by rw [List.length_append, h1]; simp; omega), List.take_of_length_le (by rw [List.length_append, h1]; simp; omega), ht]
  show (List.take ((i + 1) * 2) (splice L (i * 2) [a, b]) ++ (vs.drop (i * 2) ++ List.drop ((i + 1) * 2 + (vs.drop (i * 2)).length) (splice L (i * 2) [a, b]))).take ((n + 1) * 2) = _
  rw [h3, ← List.append_assoc]
  have h4 : (vs.take (i * 2) ++ [a, b] ++ vs.drop (i * 2)).length = (n + 1) * 2 := by
    rw [List.length_append, List.length_append, h2, ← ht, h1]
    simp
    omega
  rw [List.take_append_of_le_length (by omega), List.take_of_length_le (by omega)]
def insV (vs : List Value) (i : Nat) (a b : Value) : List Value := vs.take (i * 2) ++ [a, b] ++ vs.drop (i * 2)
def InsPost (w : World) (base g n : Nat) (xs : List Value) (e : Ending) (w' : World) : Prop := ∃ A c, e = .returned (.slice A (n + 1) c) ∧ w'.ownsRow base 28 2 (.slice A (n + 1) c) (n + 1) xs ∧ w.grownBy w' (some g)
theorem own_cells {w : World} {base g n c sz : Nat} {e : TypeId} {xs : List Value} (h : w.ownsRow base e sz (.slice (some ⟨g, 0, none⟩) n c) n xs) : ∃ L : List Value, w.heap[g]? = some (.cells L.toArray e (0, 0)) ∧ L.length = c * sz ∧ L.take (n * sz) = xs ∧ base ≤ g ∧ n ≤ c ∧ c ≤ maxLen := by
  rcases h.2 with ⟨h3, _⟩ | ⟨g', cap, cur, h3, hb, hh, hnc, hc, hs, ht⟩
  · simp at h3
  · simp only [Value.slice.injEq, Option.some.injEq, Addr.mk.injEq, and_true, true_and] at h3
    obtain ⟨rfl, rfl⟩ := h3
    exact ⟨cur.toList, by simpa using hh, by simpa using hs, ht, hb, hnc, hc⟩
theorem cells_read {w : World} {g : Nat} {L : List Value} {e : TypeId} (h : w.heap[g]? = some (.cells L.toArray e (0, 0))) (j : Nat) (hj : j < L.length) : w.cell? ⟨g, j, none⟩ = some L[j] := by
  rw [cell_of_row w g j _ _ (0, 0) h]
  simp [hj]
theorem zeros_rec (w : World) (base g i n : Nat) (vs : List Value) (hown : w.ownsRow base 28 2 (.slice (some ⟨g, 0, none⟩) n n) n vs) (hin : i < n) (hn : n ≤ 1000) :
    ∃ c w' L, (∀ ty, (Builtin.append_ #[23, 3] ty #[.slice (some ⟨g, 0, none⟩) i n, .int .i64 ((n : Int) + 1 - i)]).run Tryz.prog w = .ok (.slice (some ⟨w.heap.size, 0, none⟩) (n + 1) c) w') ∧
      w'.heap[w.heap.size]? = some (.cells (L : List Value).toArray 28 (0, 0)) ∧ L.length = c * 2 ∧ L.take (i * 2) = vs.take (i * 2) ∧ n + 1 ≤ c ∧ c ≤ maxLen ∧ Below w.heap.size w w' := by
  obtain ⟨i0, hi, hz0, hz1, hz2⟩ := info_parts info_rec
  obtain ⟨L0, hL0, hl0, ht0, _⟩ := own_cells hown
  have hl0' : L0.length = n * 2 := hl0
  have hvs : L0 = vs := by rw [← ht0, List.take_of_length_le (by omega)]
  subst hvs
  have hread : ∀ j v, (L0.take (i * 2))[j]? = some v → w.drew.cell? ((⟨g, 0, none⟩ : Addr).add j) = some v := by
    intro j v hj
    obtain ⟨hj', rfl⟩ := List.getElem?_eq_some_iff.1 hj
    rw [Addr.add_lit, Nat.zero_add, List.getElem_take]
    exact cells_read (w := w.drew) hL0 j (by rw [List.length_take] at hj'; omega)
  have hold : (Builtin.firstCells i0.size i (.slice (some ⟨g, 0, none⟩) i n)).run Tryz.prog w.drew = .ok (L0.take (i * 2)).toArray w.drew := by
    have := run_loadCells_list (P := Tryz.prog) w.drew ⟨g, 0, none⟩ (L0.take (i * 2)) hread
    rw [List.length_take, Nat.min_eq_left (by omega)] at this
    simp [Builtin.firstCells, hz1, this]
  have hk : n + 1 - i = (n + 1 - i : Nat) := rfl
  have hik : i + (n + 1 - i) = n + 1 := by omega
  have hrun := fun ty => Lib.run_append_grow_zeros (P := Tryz.prog) w 23 3 ty 28 i0 (.agg #[.string ⟨#[]⟩, .slice none 0 0]) .i64 .i64 Tryz.underlying23 Tryz.underlying3 hi hz0 (some ⟨g, 0, none⟩) i n _ hold (n + 1 - i) (by omega) (by rw [hz1]; omega) (by omega) (by omega) (by rw [hz2]; omega) (by
    rw [hz2, hik]
    exact growslice_fits (by omega) (by omega))
  rw [hik] at hrun
  have hKK : (n : Int) + 1 - i = ((n + 1 - i : Nat) : Int) := by omega
  rw [← hKK] at hrun
  have hcap := grownCap_ge w (n + 1) n 28
  have hml := grownCap_le_maxLen w (n + 1) n 28 (by unfold maxLen; omega)
  obtain ⟨c, hc⟩ : ∃ c, grownCap w (n + 1) n 28 = c := ⟨_, rfl⟩
  rw [hc] at hcap hml hrun
  obtain ⟨L, hL⟩ : ∃ L : List Value, L = L0.take (i * 2) ++ (Builtin.zeroCells (Value.agg #[.string ⟨#[]⟩, .slice none 0 0]).cells (n + 1 - i)).toList ++ (Builtin.zeroCells (Value.agg #[.string ⟨#[]⟩, .slice none 0 0]).cells (c - (n + 1))).toList := ⟨_, rfl⟩
  have hcs : (Value.agg #[.string ⟨#[]⟩, .slice none 0 0]).cells.size = 2 := rfl
  have hll : L.length = c * 2 := by
    rw [hL, List.length_append, List.length_append, List.length_take, Nat.min_eq_left (by omega), Array.length_toList, Array.length_toList, size_zeroCells, size_zeroCells, hcs]
    omega
  refine ⟨c, _, L, hrun, ?_, hll, ?_, hcap, hml, ?_⟩
  · have e : (L0.take (i * 2)).toArray ++ Builtin.zeroCells (Value.agg #[.string ⟨#[]⟩, .slice none 0 0]).cells (n + 1 - i) ++ Builtin.zeroCells (Value.agg #[.string ⟨#[]⟩, .slice none 0 0]).cells (c - (n + 1)) = L.toArray := by
      rw [hL]
      apply Array.ext'
      simp
    rw [← e]
    have := heap_alloc_new w.drew (.cells ((L0.take (i * 2)).toArray ++ Builtin.zeroCells (Value.agg #[.string ⟨#[]⟩, .slice none 0 0]).cells (n + 1 - i) ++ Builtin.zeroCells (Value.agg #[.string ⟨#[]⟩, .slice none 0 0]).cells (c - (n + 1))) 28)
    simpa using this
  · rw [hL, List.append_assoc, List.take_append_of_le_length (by rw [List.length_take]; omega), List.take_take, Nat.min_self]
  · exact (Below.refl w.heap.size w).drew.alloc (Nat.le_refl _) _
set_option maxRecDepth 100000 in
set_option maxHeartbeats 8000000 in
theorem insert_rec (g n i vb base : Nat) (a b : Value) (vs : List Value) (w : World) (ho : w.ownsRow base 28 2 (.slice (some ⟨g, 0, none⟩) n n) n vs) (hi : i ≤ n) (hn : n ≤ 1000) (_hvb : vb ≠ g) (ha : w.cell? ⟨vb, 0, none⟩ = some a) (hb : w.cell? ⟨vb, 1, none⟩ = some b) (h1 : a.oneCell' = true ∧ b.oneCell' = true) (hvone : ∀ v ∈ vs, v.oneCell' = true) :
    Calls Tryz.prog 31 #[.slice (some ⟨g, 0, none⟩) n n, .int .i64 i, .slice (some ⟨vb, 0, none⟩) 1 1] w fun e w' => InsPost w base g n (insV vs i a b) e w' := by
  have hsz := sz_rec
  have hiI : (i : Int) ≤ n := by omega
  obtain ⟨L0, hL0, hl0, ht0, hbg, _, _⟩ := own_cells ho
  have hvs : L0 = vs := by rw [← ht0, List.take_of_length_le (by omega)]
  subst hvs
  have hg0 : g < w.heap.size := (Array.getElem?_eq_some_iff.1 hL0).1
  have hvb0 := World.block_lt_of_cell? w ⟨vb, 0, none⟩ ha
  have hbase : base ≤ w.heap.size := by omega
  by_cases hin : i = n
  · obtain ⟨i0, hi0, hz0, hz1, hz2⟩ := info_parts info_rec
    have hinI : ((i : Int) == n) = true := by simp; omega
    have hrd : Rd w w.heap.size (some ⟨vb, 0, none⟩) [a, b] := .inr ⟨vb, 0, rfl, hvb0, fun j hj => by
      match j, hj with
      | 0, _ => exact ha
      | 1, _ => exact hb⟩
    have hone : ∀ u ∈ [a, b], u.oneCell' = true := by
      intro u hu
      simp only [List.mem_cons, List.not_mem_nil, or_false] at hu
      rcases hu with rfl | rfl
      · exact h1.1
      · exact h1.2
    have hins : insV L0 i a b = L0 ++ [a, b] := by
      unfold insV
      rw [List.take_of_length_le (by omega), List.drop_of_length_le (by omega), List.append_nil]
    rw [hins]
    subst hin
    clear hins hL0 ht0 h1 ha hb hvone
    have HO := Lib.hid hl0
    clear hl0
    go_enter Tryz.func31, Tryz.ntmps31
    go_wp2_with (at_builtin; refine wpList_append_rdK _ (by rfl) _ _ _ (by rfl) base 28 i0 (.agg #[.string ⟨#[]⟩, .slice none 0 0]) 2 40 Tryz.underlying23 hi0 hz0 hz1 hz2 (by rfl) (by decide) (.slice (some ⟨g, 0, none⟩) i i) i L0 (by rfl) ho (some ⟨vb, 0, none⟩) 1 1 [a, b] (by rfl) hrd rfl hone (by unfold maxLen; omega) (by omega) hbase ?_; intro v5 w2 ho2 hg2 hr2)
    obtain ⟨A5, c5, rfl, _, _⟩ := own_slice ho2
    go_ret
    exact ⟨_, _, rfl, ho2, hg2⟩
  · have hinl : i < n := by omega
    have hinI : ((i : Int) == n) = false := by simp; omega
    have hnc : decide ((n : Int) < (n : Int) + 1) = true := by simp; omega
    obtain ⟨c, w1, L, hrz, hgL, hll, hlt, hcn, hcm, hb1⟩ := zeros_rec w base g i n L0 ho hinl hn
    have hcI : (i : Int) < c := by omega
    have hcI2 : ((i : Int) + 1) < c := by omega
    have hfar : ∀ W, Below w.heap.size w W → (∀ k v, w.cell? ⟨vb, k, none⟩ = some v → W.cell? ⟨vb, k, none⟩ = some v) ∧ ∀ j (hj : j < L0.length), W.cell? ⟨g, j, none⟩ = some L0[j] := fun W q =>
      ⟨fun k v h => (q.cell (p := ⟨vb, k, none⟩) hvb0).trans h, fun j hj => (q.cell (p := ⟨g, j, none⟩) hg0).trans (cells_read hL0 j hj)⟩
    obtain ⟨w2, hc1, hg2, hr2⟩ := run_copyT (P := Tryz.prog) w1 23 23 28 (some ⟨w.heap.size, i * 2, none⟩) (some ⟨vb, 0, none⟩) (n + 1 - i) (c - i) 1 1 w.heap.size (i * 2) L 28 [a, b] 2 1 Tryz.underlying23 info_rec2 hgL (by simp only [Nat.min_def]; split <;> omega) rfl
      (fun _ => ⟨rfl, _, rfl, fun j v hj => by
        rw [Addr.add_lit, Nat.zero_add]
        have hh := hfar w1 hb1
        match j, hj with
        | 0, hj => simp only [List.getElem?_cons_zero, Option.some.injEq] at hj; subst hj; exact hh.1 0 _ ha
        | 1, hj => simp only [List.getElem?_cons_succ, List.getElem?_cons_zero, Option.some.injEq] at hj; subst hj; exact hh.1 1 _ hb
        | j + 2, hj => simp at hj⟩) (by simp; omega) (by
        intro u hu
        simp only [List.mem_cons, List.not_mem_nil, or_false] at hu
        rcases hu with rfl | rfl
        · exact h1.1
        · exact h1.2)
    have hb2 : Below w.heap.size w w2 := hb1.grown hr2 hb1.size (fun k hk => by cases hk; exact Nat.le_refl _)
    have hsl : (splice L (i * 2) [a, b]).length = c * 2 := by rw [length_splice _ _ _ (by simp; omega)]; exact hll
    have hdl : (L0.drop (i * 2)).length = (n - i) * 2 := by rw [List.length_drop]; omega
    have hone : ∀ v ∈ L0, v.oneCell' = true := hvone
    obtain ⟨w3, hc2, hg3, hr3⟩ := run_copyT (P := Tryz.prog) w2.drew 23 23 28 (some ⟨w.heap.size, (i + 1) * 2, none⟩) (some ⟨g, i * 2, none⟩) (n + 1 - (i + 1)) (c - (i + 1)) (n - i) (n - i) w.heap.size ((i + 1) * 2) (splice L (i * 2) [a, b]) 28 (L0.drop (i * 2)) 2 (n - i) Tryz.underlying23 info_rec2 hg2 (by simp only [Nat.min_def]; split <;> omega) hdl
      (fun _ => ⟨rfl, _, rfl, fun j v hj => by
        obtain ⟨hj', rfl⟩ := List.getElem?_eq_some_iff.1 hj
        rw [Addr.add_lit, List.getElem_drop]
        exact (hfar w2 hb2).2 _ _⟩) (by omega) (fun v hv => hone v (List.mem_of_mem_drop hv))
    have hb3 : Below w.heap.size w w3 := hb2.drew.grown hr3 (by exact hb2.size) (fun k hk => by cases hk; exact Nat.le_refl _)
    have hfin : w3.ownsRow base 28 2 (.slice (some ⟨w.heap.size, 0, none⟩) (n + 1) c) (n + 1) (insV L0 i a b) := by
      have := own_of_cells (w := w3) (base := base) (n := n + 1) (c := c) (sz := 2) hbase hg3 (by rw [length_splice _ _ _ (by omega)]; exact hsl) hcn hcm
      rwa [ins_splice hll hl0 hinl hcn hlt] at this
    have HF := Lib.hid (And.intro hfin hb3)
    have hx1 : ¬ (c = i + 1) := by omega
    have hx2 : ¬ (n = i) := by omega
    have hw1 : IntKind.i64.wrap ((i : Int) + 1) = (i : Int) + 1 := by rw [IntKind.wrap_i64]; omega
    have hw2 : (0 : Int) ≤ (i : Int) + 1 := by omega
    have hw3 : ((i : Int) + 1).toNat = i + 1 := by omega
    clear hgL hll hlt hL0 hl0 ha hb h1 hfar hg2 hr2 hb2 hsl hdl hone hg3 hr3 hb3 hfin hvone
    go_enter Tryz.func31, Tryz.ntmps31
    go_wp2_with (first
      | (at_builtin; refine Lib.wpList_append_run _ rfl _ _ _ _ rfl _ _ rfl rfl _ _ (hrz _) ?_)
      | (with_reducible refine wpList_copy_eq _ rfl (.tmp 43) (.tmp 44) 23 23 rfl (.slice (some ⟨w.heap.size, i * 2, none⟩) (n + 1 - i) (c - i)) (.slice (some ⟨vb, 0, none⟩) 1 1) rfl rfl _ _ (hc1 _) ?_))
    go_region_law (refine step_copy_eq rfl _ _ 23 23 rfl (.slice (some ⟨w.heap.size, (i + 1) * 2, none⟩) (n + 1 - (i + 1)) (c - (i + 1))) (.slice (some ⟨g, i * 2, none⟩) (n - i) (n - i)) (by simp [Act.eval, Act.put]) (by simp [Act.eval, Act.put]) (hc2 _) ?_)
    go_wp2
    go_ret
    exact ⟨_, _, rfl, HF.out.1, ⟨HF.out.2.os, HF.out.2.tape, HF.out.2.output, HF.out.2.size, fun k hk _ => HF.out.2.block k hk⟩⟩
end
section
open Go.RowKit
theorem run_clear_rec (w : World) (g o m c : Nat) (hm : m = 1) (cur : List Value) (hg : w.heap[g]? = some (.cells cur.toArray 28 (0, 0))) (hfit : o + 2 ≤ cur.length) :
    ∃ w', (∀ ty, (Builtin.clear_ #[23] ty #[.slice (some ⟨g, o, none⟩) m c]).run Tryz.prog w = .ok (.tuple #[]) w') ∧ w'.heap[g]? = some (.cells (splice cur o [.string ⟨#[]⟩, .slice none 0 0]).toArray 28 (0, 0)) ∧ w.grownBy w' (some g) := by
  subst hm
  have hst := run_storeCells_at Tryz.prog g o 28 [.string ⟨#[]⟩, .slice none 0 0] 0 cur.toArray w hg (by simpa using hfit) (by
    intro v hv
    simp only [List.mem_cons, List.not_mem_nil, or_false] at hv
    rcases hv with rfl | rfl <;> rfl)
  have hz : (zeroValue 28).run Tryz.prog w = .ok (.agg #[.string ⟨#[]⟩, .slice none 0 0]) w := Tryz.zeroValue28 w
  have hzc : (Builtin.zeroCells (Value.agg #[.string ⟨#[]⟩, .slice none 0 0]).cells 1).toList = [.string ⟨#[]⟩, .slice none 0 0] := by kernel_rfl
  refine ⟨w.setRow g (cur.toArray.toList.take o ++ [Value.string ⟨#[]⟩, Value.slice none 0 0] ++ cur.toArray.toList.drop (o + 2)).toArray, fun ty => ?_, by simpa [splice] using setRow_heap w g _ _ 28 _ hg, ⟨rfl, rfl, rfl, by simp [World.setRow], fun i _ hne => setRow_other w g i _ (fun e => hne (by rw [e]))⟩⟩
  simp only [Nat.add_zero, List.length_cons, List.length_nil] at hst
  simp [Builtin.clear_, run_underlying Tryz.underlying23, hz, hzc, hst]
def delV (vs : List Value) (i : Nat) : List Value := vs.take (i * 2) ++ vs.drop ((i + 1) * 2)
theorem del_splice {vs : List Value} {i n : Nat} (hv : vs.length = n * 2) (hi : i < n) (z : List Value) :
    (splice (vs.take (i * 2) ++ vs.drop ((i + 1) * 2) ++ vs.drop (i * 2 + (vs.drop ((i + 1) * 2)).length)) ((n - 1) * 2) z).take ((n - 1) * 2) = delV vs i := by
  have h1 : (vs.take (i * 2) ++ vs.drop ((i + 1) * 2)).length = (n - 1) * 2 := by
    rw [List.length_append, List.length_take, List.length_drop, hv]
    omega
  unfold splice delV
  rw [List.take_append_of_le_length (by rw [List.length_take, List.length_append, h1]; omega), List.take_take, Nat.min_self, List.take_append_of_le_length (by omega), List.take_of_length_le (by omega)]
theorem step_append_eq {P : Program} {ops : Array Oper} {o : Oper} {a : Act} {w : World} {K : Act → World → Prop} {Q : Exit → Act → World → Prop} {E : Prop} (hgd : o.guard = none) (d s : Operand) (dT sT : TypeId)
    (ho : o.op = .call { callee := .builtin .append, args := #[d, s], argTypes := #[dT, sT] }) (vd vs : Value) (hd : a.eval d = vd) (hs : a.eval s = vs) {v' : Value} {w' : World}
    (hr : (Builtin.append_ #[dT, sT] o.type #[vd, vs]).run P w = .ok v' w') (h : K (a.put o.dst v') w') :
    if Region.wanted o (yielded ops a.tmps) = true then Oper.wp P o a w K Q else E := by
  have hw : Region.wanted o (yielded ops a.tmps) = true := by simp [Region.wanted, hgd]
  rw [if_pos hw]
  unfold Oper.wp
  simp [execOp, ho, resolve, invoke, builtin, hd, hs, hr, Result.andThen]
  exact h
def DelPost (w : World) (base g n : Nat) (xs : List Value) (e : Ending) (w' : World) : Prop := e = .returned (.slice (some ⟨g, 0, none⟩) (n - 1) n) ∧ w'.ownsRow base 28 2 (.slice (some ⟨g, 0, none⟩) (n - 1) n) (n - 1) xs ∧ w.grownBy w' (some g)
set_option maxRecDepth 100000 in
set_option maxHeartbeats 8000000 in
theorem delete_rec (g n i base : Nat) (vs : List Value) (w : World) (ho : w.ownsRow base 28 2 (.slice (some ⟨g, 0, none⟩) n n) n vs) (hi : i < n) (hn : n ≤ 1000) (hvone : ∀ v ∈ vs, v.oneCell' = true) :
    Calls Tryz.prog 35 #[.slice (some ⟨g, 0, none⟩) n n, .int .i64 i, .int .i64 ((i : Int) + 1)] w fun e w' => DelPost w base g n (delV vs i) e w' := by
  have hsz := sz_rec
  obtain ⟨L0, hL0, hl0, ht0, hbg, _, hnm⟩ := own_cells ho
  have hvs : L0 = vs := by rw [← ht0, List.take_of_length_le (by omega)]
  subst hvs
  have hiI : (i : Int) < n := by omega
  have hiI2 : (i : Int) ≤ n := by omega
  have hne : ((i : Int) == (i : Int) + 1) = false := by simp; omega
  have hlast : i + 1 = n ∨ i + 1 < n := by omega
  obtain ⟨SA, hSA⟩ : ∃ SA : Addr, SA = if n = i + 1 then ⟨g, 0, none⟩ else ⟨g, (i + 1) * 2, none⟩ := ⟨_, rfl⟩
  have hnews : ∀ j u, (L0.drop ((i + 1) * 2))[j]? = some u → w.drew.cell? (SA.add j) = some u := by
    intro j u hj
    obtain ⟨hj', rfl⟩ := List.getElem?_eq_some_iff.1 hj
    have hj2 : j < L0.length - (i + 1) * 2 := by simpa using hj'
    rw [hSA, if_neg (by omega), Addr.add_lit, List.getElem_drop]
    exact cells_read (w := w.drew) hL0 _ (by omega)
  have hdl : (L0.drop ((i + 1) * 2)).length = (n - (i + 1)) * 2 := by rw [List.length_drop]; omega
  obtain ⟨i0, hi0, hz0, hz1, hz2⟩ := info_parts info_rec
  have hap := fun ty => run_append_room (P := Tryz.prog) w.drew 23 ty 28 i0 Tryz.underlying23 hi0 g i n L0.toArray hL0 SA (n - (i + 1)) (n - (i + 1)) (L0.drop ((i + 1) * 2)) (by rw [hz1]; exact hdl) hnews (fun u hu => hvone u (List.mem_of_mem_drop hu)) (by omega) (by rw [hz1, hdl]; simp; omega)
  obtain ⟨w1, hw1⟩ : ∃ w1, w1 = w.drew.setRow g (L0.toArray.toList.take (i * i0.size) ++ L0.drop ((i + 1) * 2) ++ L0.toArray.toList.drop (i * i0.size + (L0.drop ((i + 1) * 2)).length)).toArray := ⟨_, rfl⟩
  rw [← hw1, show i + (n - (i + 1)) = n - 1 by omega] at hap
  have hg1 : w1.heap[g]? = some (.cells (L0.take (i * 2) ++ L0.drop ((i + 1) * 2) ++ L0.drop (i * 2 + (L0.drop ((i + 1) * 2)).length)).toArray 28 (0, 0)) := by
    rw [hw1, hz1]
    exact setRow_heap w.drew g _ _ 28 _ hL0
  have hr1 : w.grownBy w1 (some g) := by
    rw [hw1]
    exact ⟨rfl, rfl, rfl, by simp [World.setRow], fun k _ hne => setRow_other w.drew g k _ (fun e => hne (by rw [e]))⟩
  obtain ⟨cur, hcur⟩ : ∃ cur, cur = L0.take (i * 2) ++ L0.drop ((i + 1) * 2) ++ L0.drop (i * 2 + (L0.drop ((i + 1) * 2)).length) := ⟨_, rfl⟩
  have hcl : cur.length = n * 2 := by
    rw [hcur, List.length_append, List.length_append, List.length_take, hdl, List.length_drop]
    omega
  rw [← hcur] at hg1
  obtain ⟨w2, hclr, hg2, hr2⟩ := run_clear_rec w1 g ((n - 1) * 2) (n - (n - 1)) (n - (n - 1)) (by omega) cur hg1 (by omega)
  have hfin : w2.ownsRow base 28 2 (.slice (some ⟨g, 0, none⟩) (n - 1) n) (n - 1) (delV L0 i) := by
    have := own_of_cells (w := w2) (base := base) (n := n - 1) (c := n) (sz := 2) hbg hg2 (by rw [length_splice _ _ _ (by simp; omega)]; exact hcl) (by omega) hnm
    rwa [hcur, del_splice hl0 hi] at this
  have HF := Lib.hid (And.intro hfin (grown_trans hr1 hr2))
  have hw1' : IntKind.i64.wrap ((i : Int) + 1) = (i : Int) + 1 := by rw [IntKind.wrap_i64]; omega
  have hw2 : (0 : Int) ≤ (i : Int) + 1 := by omega
  have hw3 : ((i : Int) + 1).toNat = i + 1 := by omega
  have hw4 : (i : Int) + 1 ≤ n := by omega
  have hsaH := Lib.hid hSA
  clear hfin hr1 hr2 hg1 hg2 hcl hcur hw1 hdl hnews hL0 hl0 ht0 ho hSA
  go_enter Tryz.func35, Tryz.ntmps35
  go_wp2_with fail
  go_region_law (refine step_append_eq rfl _ _ 23 23 rfl (.slice (some ⟨g, 0, none⟩) i n) (.slice (some SA) (n - (i + 1)) (n - (i + 1))) (by simp [Act.eval, Act.put]) (by rw [hsaH.out]; simp [Act.eval, Act.put]; try split <;> simp_all) (hap _) ?_)
  simp [Act.put, Exit.then]
  go_at_K
  go_wp2
  all_goals
    go_ret
    first
      | exact ⟨rfl, HF.out.1, HF.out.2⟩
      | (rename_i h; subst h; exact ⟨rfl, HF.out.1, HF.out.2⟩)
end
section
open Go.RowKit
/-- a table's sizes -/
structure TabW (t : TabC) : Prop where
  wf : ∀ r ∈ t.rows, RecW r
  ul : t.us.length ≤ 900
  rl : t.rows.length ≤ 900
  uz : ∀ s ∈ t.us, s.size ≤ maxLen
theorem NewTab.tabIn {w : World} {base : Nat} {t : TabC} {Au : Option Addr} {cu g c : Nat} (h : NewTab w base t Au cu g c) (hT : Tabs w) (hw : TabW t) : TabIn w w.heap.size t Au (some ⟨g, 0, none⟩) := by
  obtain ⟨hu, ⟨vs, hg, hl, hk⟩, hge, hcap⟩ := h
  refine ⟨Rd.of_own hu, .inr ⟨g, 0, rfl, (Array.getElem?_eq_some_iff.1 hg).1, fun k hkr => ?_⟩, Nat.le_refl _, hT, hw.wf, by have := hw.ul; omega, by have := hw.rl; omega⟩
  obtain ⟨h0, A, c', h1, h2⟩ := hk k hkr hkr
  obtain ⟨l0, e0⟩ := List.getElem?_eq_some_iff.1 h0
  obtain ⟨l1, e1⟩ := List.getElem?_eq_some_iff.1 h1
  obtain ⟨A', c'', e, hc1, hc2⟩ := own_slice h2
  simp only [Value.slice.injEq] at e
  obtain ⟨rfl, _, rfl⟩ := e
  refine ⟨?_, A, c', ?_, ⟨rd_ofK2 h2, hc1, hc2⟩⟩
  · rw [Nat.zero_add, cells_read hg _ l0, e0]
  · rw [Nat.zero_add, cells_read hg _ l1, e1]
theorem NewTab.below {w w' : World} {base : Nat} {t : TabC} {Au : Option Addr} {cu g c B : Nat} (h : NewTab w base t Au cu g c) (hb : Below B w w') (hB : w.heap.size ≤ B) : NewTab w' base t Au cu g c := by
  obtain ⟨hu, ⟨vs, hg, hl, hk⟩, hge, hcap⟩ := h
  refine ⟨own_below hu hb (fun k hk => Nat.lt_of_lt_of_le (own_lt hu k hk) hB), ⟨vs, (hb.block g (Nat.lt_of_lt_of_le (Array.getElem?_eq_some_iff.1 hg).1 hB)).trans hg, hl, fun j hj hjk => ?_⟩, hge, hcap⟩
  obtain ⟨h0, A, c', h1, h2⟩ := hk j hj hjk
  exact ⟨h0, A, c', h1, own_below h2 hb (fun k hk => Nat.lt_of_lt_of_le (own_lt h2 k hk) hB)⟩
def BegunPost (t : TabC) (w : World) (e : Ending) (w' : World) : Prop := ∃ bk Au cu g, e = .returned (.tuple #[.pointer (some ⟨bk, 0, none⟩), .int .i64 0]) ∧ Four w' bk (.string t.name) (.int .i64 t.most) (.slice Au t.us.length cu) (.slice (some ⟨g, 0, none⟩) t.rows.length t.rows.length) ∧
  NewTab w' w.heap.size t Au cu g t.rows.length ∧ w.heap.size ≤ bk ∧ (∃ cs, w'.heap[bk]? = some (.cells cs 53 (0, 0))) ∧ Below w.heap.size w w'
set_option maxHeartbeats 4000000 in
theorem begun_no (t : TabC) (Au : Option Addr) (cu : Nat) (Ar : Option Addr) (cr : Nat) (w : World) {B : Nat} (h : TabIn w B t Au Ar) (hw : TabW t) (hm : mayT t = false) :
    Calls Tryz.prog 28 #[.agg #[.string t.name, .int .i64 t.most, .slice Au t.us.length cu, .slice Ar t.rows.length cr]] w fun e w' => e = .returned (.tuple #[.pointer none, .int .i64 8]) ∧ Below w.heap.size w w' := by
  have hb0 : Below w.heap.size w (w.alloc (.cells #[.string t.name, .int .i64 t.most, .slice Au t.us.length cu, .slice Ar t.rows.length cr] 25)) := (Below.refl _ _).alloc (Nat.le_refl _) _
  have c1 := check_t t Au cu Ar cr _ (h.below hb0) hw.uz
  rw [checkT, hm] at c1
  obtain ⟨n, hn⟩ : ∃ n, t.rows.length = n := ⟨_, rfl⟩
  obtain ⟨m, hm'⟩ : ∃ m, t.us.length = m := ⟨_, rfl⟩
  rw [hn, hm'] at c1 hb0 ⊢
  have HB := Lib.hid hb0
  clear h hw hm hn hm' hb0
  go_enter Tryz.func28, Tryz.ntmps28
  go_wp2_with fail
  refine c1.mono ?_
  rintro e w1 ⟨rfl, hb1⟩
  go_wp2
  go_ret2
  exact ⟨rfl, HB.out.trans (hb1.mono HB.out.size)⟩
set_option maxHeartbeats 4000000 in
theorem begun_yes (t : TabC) (Au : Option Addr) (cu : Nat) (Ar : Option Addr) (cr : Nat) (w : World) {B : Nat} (h : TabIn w B t Au Ar) (hw : TabW t) (hm : mayT t = true) :
    Calls Tryz.prog 28 #[.agg #[.string t.name, .int .i64 t.most, .slice Au t.us.length cu, .slice Ar t.rows.length cr]] w fun e w' => BegunPost t w e w' := by
  have hb0 : Below w.heap.size w (w.alloc (.cells #[.string t.name, .int .i64 t.most, .slice Au t.us.length cu, .slice Ar t.rows.length cr] 25)) := (Below.refl _ _).alloc (Nat.le_refl _) _
  have c1 := check_t t Au cu Ar cr _ (h.below hb0) hw.uz
  rw [checkT, hm, if_pos rfl] at c1
  have kb : ∀ W, Below (w.alloc (.cells #[.string t.name, .int .i64 t.most, .slice Au t.us.length cu, .slice Ar t.rows.length cr] 25)).heap.size (w.alloc (.cells #[.string t.name, .int .i64 t.most, .slice Au t.us.length cu, .slice Ar t.rows.length cr] 25)) W →
      Four W w.heap.size (.string t.name) (.int .i64 t.most) (.slice Au t.us.length cu) (.slice Ar t.rows.length cr) := fun W q => (Four.new w _ _ _ _ _).below q (by simp)
  have c2 := fun W (q : Below w.heap.size w W) => twin_tab t Au cu Ar cr W (h.below q)
  unfold BegunPost
  unfold TwinT at c2
  obtain ⟨n, hn⟩ : ∃ n, t.rows.length = n := ⟨_, rfl⟩
  obtain ⟨m, hm'⟩ : ∃ m, t.us.length = m := ⟨_, rfl⟩
  rw [hn, hm'] at c1 hb0 kb ⊢
  simp only [hn, hm'] at c2
  have HB := Lib.hid hb0
  have HK := Lib.hid kb
  have HC2 := Lib.hid c2
  clear h hw hm hn hm' hb0 kb c2
  go_enter Tryz.func28, Tryz.ntmps28
  go_wp2_with fail
  refine c1.mono ?_
  rintro e w1 ⟨rfl, hb1⟩
  clear c1
  obtain ⟨k0, k1, k2, k3, _⟩ := HK.out w1 hb1
  have d1 := HB.out.trans (hb1.mono HB.out.size)
  go_wp2_with fail
  refine (HC2.out w1 d1).mono ?_
  rintro e w2 ⟨Au', cu', g, rfl, hnt, hb2⟩
  have d2 := d1.trans (hb2.mono d1.size)
  have HN := Lib.hid hnt
  clear k0 k1 k2 k3 hnt
  go_wp2
  go_ret2
  have hz := d2.size
  refine ⟨w2.heap.size, Au', cu', g, rfl, Four.new w2 _ _ _ _ _, ?_, d2.size, ⟨_, heap_alloc_new _ _⟩, d2.alloc d2.size _⟩
  have := HN.out.below ((Below.refl w2.heap.size w2).alloc (Nat.le_refl _) (.cells #[.string t.name, .int .i64 t.most, .slice Au' m cu', .slice (some ⟨g, 0, none⟩) n n] 53)) (Nat.le_refl _)
  obtain ⟨q1, q2, q3, q4⟩ := this
  obtain ⟨vs, g1, g2, g3⟩ := q2
  exact ⟨own_base q1 d1.size, ⟨vs, g1, g2, g3.base d1.size⟩, Nat.le_trans d1.size q3, q4⟩
theorem load_rec2 (W : World) (g : Nat) (a b u : Value) (tmps : Array Value) (h0 : W.cell? ⟨g, 0, none⟩ = some a) (h1 : W.cell? ⟨g, 1, none⟩ = some b) (ha : ∃ s, a = .string s) (hb : ∃ A n c, b = .slice A n c) (hp : tmps.getD 4 undef = .pointer (some ⟨g, 0, none⟩)) (hu : tmps.getD 5 undef = u) :
    ((asAddr (tmps.getD 4 undef)).run Tryz.prog W).andThen (fun a w₁ => ((loadVar 28 a).run Tryz.prog w₁).andThen fun v w₂ => .ok (Value.tuple #[v, tmps.getD 5 undef]) w₂) = .ok (Value.tuple #[.agg #[a, b], u]) W := by
  rw [hp, hu]
  obtain ⟨s, rfl⟩ := ha
  obtain ⟨A, n, c, rfl⟩ := hb
  go_simp
theorem load_tab2 (W : World) (g : Nat) {nm : ByteArray} {mo : Int} {A A' : Option Addr} {n c n' c' : Nat} (u : Value) (tmps : Array Value) (h : Four W g (.string nm) (.int .i64 mo) (.slice A n c) (.slice A' n' c')) (hp : tmps.getD 4 undef = .pointer (some ⟨g, 0, none⟩)) (hu : tmps.getD 5 undef = u) :
    ((asAddr (tmps.getD 4 undef)).run Tryz.prog W).andThen (fun a w₁ => ((loadVar 25 a).run Tryz.prog w₁).andThen fun v w₂ => .ok (Value.tuple #[v, tmps.getD 5 undef]) w₂) = .ok (Value.tuple #[.agg #[.string nm, .int .i64 mo, .slice A n c, .slice A' n' c'], u]) W := by
  rw [hp, hu]
  obtain ⟨h0, h1, h2, h3, _⟩ := h
  go_simp
def zeroR : RecC := ⟨⟨#[]⟩, []⟩
def getT (t : TabC) (id : ByteArray) : Option RecC := if mayT t = true then (if hasB (idsL t.rows) id = true then t.rows[before (idsL t.rows) id]? else none) else none
def GetPost (x : RecC) (b : Bool) (w : World) (e : Ending) (w' : World) : Prop := ∃ A c, e = .returned (.tuple #[.agg #[.string x.id, .slice A x.data.length c], .bool b]) ∧ w'.ownsRow w.heap.size 47 5 (.slice A x.data.length c) x.data.length (cv x.data) ∧ Below w.heap.size w w'
theorem hasB_get {xs : List ByteArray} {s : ByteArray} (h : hasB xs s = true) : ∃ hl : before xs s < xs.length, xs[before xs s] = s := by
  by_cases hl : before xs s < xs.length
  · refine ⟨hl, ?_⟩
    rw [hasB_at hl] at h
    simpa using h
  · rw [hasB_end hl] at h
    cases h
theorem mayT_rises {t : TabC} (h : mayT t = true) : rises (idsL t.rows) = true := by
  unfold mayT at h
  simp only [Bool.and_eq_true] at h
  exact h.1.1.2
set_option maxRecDepth 100000 in
set_option maxHeartbeats 8000000 in
theorem get_t (t : TabC) (id : ByteArray) (Au : Option Addr) (cu : Nat) (Ar : Option Addr) (cr : Nat) (w : World) {B : Nat} (h : TabIn w B t Au Ar) (hw : TabW t) :
    Calls Tryz.prog 7 #[.agg #[.string t.name, .int .i64 t.most, .slice Au t.us.length cu, .slice Ar t.rows.length cr], .string id] w fun e w' => GetPost ((getT t id).getD zeroR) (getT t id).isSome w e w' := by
  obtain ⟨W1, hW1⟩ : ∃ W1, W1 = (w.alloc (.cells #[.string t.name, .int .i64 t.most, .slice Au t.us.length cu, .slice Ar t.rows.length cr] 25)).alloc (.cells #[.string ⟨#[]⟩, .slice none 0 0] 28) := ⟨_, rfl⟩
  have z1 : W1.heap.size = w.heap.size + 1 + 1 := by rw [hW1]; simp
  have b01 : Below w.heap.size w W1 := by rw [hW1]; exact ((Below.refl _ _).alloc (Nat.le_refl _) _).alloc (by simp) _
  have f0 : ∀ W, Below W1.heap.size W1 W → Four W w.heap.size (.string t.name) (.int .i64 t.most) (.slice Au t.us.length cu) (.slice Ar t.rows.length cr) := fun W q => by
    refine Four.below (W := W1) ?_ q (by omega)
    rw [hW1]
    exact (Four.new w _ _ _ _ _).grown (World.grownBy_alloc _ _ none) (by simp)
  have f1 : ∀ W, Below W1.heap.size W1 W → W.cell? ⟨w.heap.size + 1, 0, none⟩ = some (.string ⟨#[]⟩) ∧ W.cell? ⟨w.heap.size + 1, 1, none⟩ = some (.slice none 0 0) ∧ W.frozen? ⟨w.heap.size + 1, 0, none⟩ = false ∧ W.frozen? ⟨w.heap.size + 1, 1, none⟩ = false := fun W q => by
    rw [hW1] at q
    have e : (w.alloc (.cells #[.string t.name, .int .i64 t.most, .slice Au t.us.length cu, .slice Ar t.rows.length cr] 25)).heap.size = w.heap.size + 1 := by simp
    have g0 := box_keep q 0 (by simp)
    have g1 := box_keep q 1 (by simp)
    have h0 := (q.frozen (p := ⟨(w.alloc (.cells #[.string t.name, .int .i64 t.most, .slice Au t.us.length cu, .slice Ar t.rows.length cr] 25)).heap.size, 0, none⟩) (by simp)).trans (frozen_new _ _ _ _)
    have h1 := (q.frozen (p := ⟨(w.alloc (.cells #[.string t.name, .int .i64 t.most, .slice Au t.us.length cu, .slice Ar t.rows.length cr] 25)).heap.size, 1, none⟩) (by simp)).trans (frozen_new _ _ _ _)
    rw [e] at g0 g1 h0 h1
    exact ⟨g0, g1, h0, h1⟩
  have c1 := check_t t Au cu Ar cr W1 (h.below b01) hw.uz
  have q0 : ∀ (W : World) (j0 j1 u0 u1 : Value), W.cell? ⟨w.heap.size + 1, 0, none⟩ = some j0 → W.cell? ⟨w.heap.size + 1, 1, none⟩ = some j1 → ((W.setCell ⟨w.heap.size + 1, 0, none⟩ u0).setCell ⟨w.heap.size + 1, 1, none⟩ u1).cell? ⟨w.heap.size + 1, 0, none⟩ = some u0 ∧ ((W.setCell ⟨w.heap.size + 1, 0, none⟩ u0).setCell ⟨w.heap.size + 1, 1, none⟩ u1).cell? ⟨w.heap.size + 1, 1, none⟩ = some u1 := fun W j0 j1 u0 u1 a0 a1 =>
    ⟨(World.cell?_setCell_other _ _ _ _ (by simp)).trans (World.cell?_setCell_same _ _ _ a0), World.cell?_setCell_same _ _ _ ((World.cell?_setCell_other _ _ _ _ (by simp)).trans a1)⟩
  have hset : ∀ (W : World) (u0 u1 : Value), Below w.heap.size w W → Below w.heap.size w ((W.setCell ⟨w.heap.size + 1, 0, none⟩ u0).setCell ⟨w.heap.size + 1, 1, none⟩ u1) := fun W u0 u1 q => (q.setCell (by show w.heap.size ≤ w.heap.size + 1; omega) _).setCell (by show w.heap.size ≤ w.heap.size + 1; omega) _
  have HQ := Lib.hid q0
  have HSET := Lib.hid hset
  have HB := Lib.hid b01
  have HF0 := Lib.hid f0
  have HF1 := Lib.hid f1
  have HH := Lib.hid (And.intro h hw)
  unfold GetPost getT
  clear h hw q0 hset f0 f1 b01
  cases hm : mayT t with
  | false =>
    rw [checkT, hm] at c1
    simp only [Bool.false_eq_true, if_false, Option.getD_none, Option.isSome_none]
    obtain ⟨n, hn⟩ : ∃ n, t.rows.length = n := ⟨_, rfl⟩
    obtain ⟨m, hm'⟩ : ∃ m, t.us.length = m := ⟨_, rfl⟩
    rw [hn, hm'] at c1 hW1 ⊢
    clear hm hn hm' z1
    unfold zeroR
    subst hW1
    go_enter Tryz.func7, Tryz.ntmps7
    go_wp2_with fail
    refine c1.mono ?_
    rintro e w1 ⟨rfl, hb1⟩
    obtain ⟨a0, a1, b0, b1⟩ := HF1.out w1 hb1
    go_wp2
    have hh := HQ.out w1 _ _ (.string ⟨#[]⟩) (.slice none 0 0) a0 a1
    refine bodyPost_ret (v := .tuple #[.agg #[.string ⟨#[]⟩, .slice none 0 0], .bool false]) ?_ rfl ⟨none, 0, rfl, World.ownsRow_nil _ _ _ _, ?_⟩
    · rw [results_cell_tmp rfl]
      exact load_rec2 _ _ _ _ _ _ hh.1 hh.2 ⟨_, rfl⟩ ⟨_, _, _, rfl⟩ rfl rfl
    · exact HSET.out _ _ _ (HB.out.trans (hb1.mono HB.out.size))
  | true =>
    rw [checkT, hm, if_pos rfl] at c1
    rw [if_pos rfl]
    have hr := mayT_rises hm
    obtain ⟨h, hw⟩ := HH.out
    have bkI : ∀ W, Below W1.heap.size W1 W → BookIn (W.alloc (.cells #[.string t.name, .int .i64 t.most, .slice Au t.us.length cu, .slice Ar t.rows.length cr] 53)) t W.heap.size Au cu Ar cr B := fun W q => by
      have f := Four.new W (.string t.name) (.int .i64 t.most) (.slice Au t.us.length cu) (.slice Ar t.rows.length cr) 53
      exact ⟨by simp, f.c0, f.c1, f.c2, f.c3, (h.below (HB.out.trans (q.mono HB.out.size))).below ((Below.refl _ _).alloc (Nat.le_refl _) _)⟩
    have c2 := fun W (q : Below W1.heap.size W1 W) => find_any t id W.heap.size Au cu Ar cr _ (bkI W q) hr
    obtain ⟨P, hP⟩ : ∃ P, before (idsL t.rows) id = P := ⟨_, rfl⟩
    cases hB' : hasB (idsL t.rows) id with
    | false =>
      simp only [hP, hB'] at c2
      simp only [Bool.false_eq_true, if_false, Option.getD_none, Option.isSome_none]
      obtain ⟨n, hn⟩ : ∃ n, t.rows.length = n := ⟨_, rfl⟩
      obtain ⟨m, hm'⟩ : ∃ m, t.us.length = m := ⟨_, rfl⟩
      rw [hn, hm'] at c1 hW1 ⊢
      simp only [hn, hm'] at c2 HF0
      have HC2 := Lib.hid c2
      clear hm hn hm' z1 c2 bkI h hw hr hP hB'
      unfold zeroR
      subst hW1
      go_enter Tryz.func7, Tryz.ntmps7
      go_wp2_with fail
      refine c1.mono ?_
      rintro e w1 ⟨rfl, hb1⟩
      clear c1
      obtain ⟨k0, k1, k2, k3, _⟩ := HF0.out w1 hb1
      go_wp2_with fail
      refine (HC2.out w1 hb1).mono ?_
      rintro e w2 ⟨rfl, hb2⟩
      have d2 := hb1.trans ((((Below.refl w1.heap.size w1).alloc (Nat.le_refl _) _).trans (hb2.mono (by simp))).mono hb1.size)
      obtain ⟨a0, a1, b0, b1⟩ := HF1.out w2 d2
      clear k0 k1 k2 k3
      go_wp2
      have hh := HQ.out w2 _ _ (.string ⟨#[]⟩) (.slice none 0 0) a0 a1
      refine bodyPost_ret (v := .tuple #[.agg #[.string ⟨#[]⟩, .slice none 0 0], .bool false]) ?_ rfl ⟨none, 0, rfl, World.ownsRow_nil _ _ _ _, ?_⟩
      · rw [results_cell_tmp rfl]
        exact load_rec2 _ _ _ _ _ _ hh.1 hh.2 ⟨_, rfl⟩ ⟨_, _, _, rfl⟩ rfl rfl
      · exact HSET.out _ _ _ (HB.out.trans (d2.mono HB.out.size))
    | true =>
      simp only [hP, hB'] at c2
      rw [if_pos rfl]
      obtain ⟨hl, he⟩ := hasB_get hB'
      have hPl : P < t.rows.length := by rw [hP, idsL_len] at hl; exact hl
      rw [hP, List.getElem?_eq_getElem hPl, Option.getD_some, Option.isSome_some]
      have hrow : ∀ W, Below W1.heap.size W1 W → ∃ b off A' c', Ar = some ⟨b, off, none⟩ ∧ b < B ∧ W.cell? ⟨b, off + P * 2, none⟩ = some (.string t.rows[P].id) ∧ W.cell? ⟨b, off + P * 2 + 1, none⟩ = some (.slice A' t.rows[P].data.length c') ∧ RecIn W B t.rows[P].data A' c' := fun W q => by
        obtain ⟨b, off, A', c', e1, e2, e3, e4, e5⟩ := ((h.below (HB.out.trans (q.mono HB.out.size))).rows).at' hPl
        exact ⟨b, off, A', c', e1, e2, e3, e4, e5⟩
      have hxw := h.wf _ (List.getElem_mem hPl)
      have hBw := h.le
      obtain ⟨x, hx⟩ : ∃ x, t.rows[P] = x := ⟨_, rfl⟩
      rw [hx] at hxw ⊢
      simp only [hx] at hrow
      obtain ⟨n, hn⟩ : ∃ n, t.rows.length = n := ⟨_, rfl⟩
      obtain ⟨m, hm'⟩ : ∃ m, t.us.length = m := ⟨_, rfl⟩
      rw [hn] at hPl
      rw [hn, hm'] at c1 hW1 ⊢
      simp only [hn, hm'] at c2 HF0
      have hPI : (P : Int) < n := by omega
      have HC2 := Lib.hid c2
      have HR := Lib.hid hrow
      have hz1 : w.heap.size + 1 + 1 ≤ W1.heap.size := by omega
      have HZ := Lib.hid hz1
      clear hm hn hm' z1 c2 bkI h hw hr hP hB' hl he hrow hx hz1
      subst hW1
      go_enter Tryz.func7, Tryz.ntmps7
      go_wp2_with fail
      refine c1.mono ?_
      rintro e w1 ⟨rfl, hb1⟩
      clear c1
      obtain ⟨k0, k1, k2, k3, _⟩ := HF0.out w1 hb1
      go_wp2_with fail
      refine (HC2.out w1 hb1).mono ?_
      rintro e w2 ⟨rfl, hb2⟩
      have d2 := hb1.trans ((((Below.refl w1.heap.size w1).alloc (Nat.le_refl _) _).trans (hb2.mono (by simp))).mono hb1.size)
      clear k0 k1 k2 k3
      obtain ⟨k0, k1, k2, k3, _⟩ := HF0.out w2 d2
      obtain ⟨b, off, A', c', hA, hbB, r0, r1, hri⟩ := HR.out w2 d2
      subst hA
      have d2w := HB.out.trans (d2.mono HB.out.size)
      have ct := twin_rec x A' c' w2 hri.rd (Nat.le_trans hBw d2w.size) hxw.len
      clear hri
      go_wp2_with fail
      refine ct.mono ?_
      rintro e w3 ⟨A3, c3, rfl, ho3, hb3⟩
      clear ct
      have d3 := d2.trans (hb3.mono d2.size)
      obtain ⟨a0, a1, b0, b1⟩ := HF1.out w3 d3
      have HO := Lib.hid ho3
      have zz := d2.size
      clear k0 k1 k2 k3 r0 r1 ho3
      go_wp2
      have hh := HQ.out w3 _ _ (.string x.id) (.slice A3 x.data.length c3) a0 a1
      have hzz := HZ.out
      refine bodyPost_ret (v := .tuple #[.agg #[.string x.id, .slice A3 x.data.length c3], .bool true]) ?_ rfl ⟨A3, c3, rfl, ?_, ?_⟩
      · rw [results_cell_tmp rfl]
        exact load_rec2 _ _ _ _ _ _ hh.1 hh.2 ⟨_, rfl⟩ ⟨_, _, _, rfl⟩ rfl rfl
      · have g2 := grown_trans (grown_set w3 (w.heap.size + 1) 0 (.string x.id)) (grown_set _ (w.heap.size + 1) 1 (.slice A3 x.data.length c3))
        exact own_base (HO.out.kept g2 (own_ne_base HO.out (by omega))) d2w.size
      · exact HSET.out _ _ _ (HB.out.trans (d3.mono HB.out.size))
end
end Go.Proofs.YtcgioepbooafcaaGreatDoor
