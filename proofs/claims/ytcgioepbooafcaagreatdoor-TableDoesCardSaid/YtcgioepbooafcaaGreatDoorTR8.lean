/- A table that the reference builds row by row. Conditions: none. -/
import Derived.Test.YtcgioepbooafcaaGreatDoorTR7
import Derived.Deep.RegionLaw
namespace Go.Proofs.YtcgioepbooafcaaGreatDoor
open Go.RowKit
theorem step_append_rdK {P : Program} {ops : Array Oper} {o : Oper} {a : Act} {w : World} {K : Act → World → Prop} {Q : Exit → Act → World → Prop} {E : Prop}
    (hg : o.guard = none) (s x : Operand) (t : TypeId) (hop : o.op = Op.call { callee := Callee.builtin Builtin.append, args := #[s, x], argTypes := #[t, t] })
    (base : Nat) (e : TypeId) (i : TypeInfo) (z : Value) (size bytes : Nat) (ht : P.underlying t = some (.slice e)) (hi : P.info? e = some i) (hz : i.zero = some z)
    (hsize : i.size = size) (hby : i.bytes = bytes) (hzs : z.cells.size = size) (hpos : 0 < size) (v : Value) (n : Nat) (xs : List Value) (hs : a.eval s = v) (hown : w.ownsRow base e size v n xs)
    {B : Nat} (A : Option Addr) (m c : Nat) (news : List Value) (hx : a.eval x = .slice A m c) (hr : Rd w B A news) (hl : news.length = m * size) (h1 : ∀ u ∈ news, u.oneCell' = true)
    (h63 : n + m ≤ maxLen) (hbytes : (n + m) * bytes ≤ 140737488355328) (hbase : base ≤ w.heap.size)
    (hK : ∀ v' w', w'.ownsRow base e size v' (n + m) (xs ++ news) → w.grownBy w' v.ownBlock → (∀ k, v.ownBlock = some k → base ≤ k) → K (a.put o.dst v') w') :
    if Region.wanted o (yielded ops a.tmps) = true then Oper.wp P o a w K Q else E := by
  have hw : Region.wanted o (yielded ops a.tmps) = true := by simp [Region.wanted, hg]
  rw [if_pos hw]
  obtain ⟨v', w', hrun, r1, r2⟩ := run_append_rdK (P := P) w base t o.type e i z size bytes ht hi hz hsize hby hzs hpos v n xs hown (c := c) hr hl h1 h63 hbytes hbase
  unfold Oper.wp
  simp [execOp, hop, resolve, invoke, builtin, hs, hx, hrun, Result.andThen]
  exact hK v' w' r1 r2 fun k hk => (hown.lt k hk).1
/-- a table's box at b, its uniques and its rows in new memory; below W0's size nothing has turned -/
structure OutTab (W0 : World) (b : Nat) (nm : ByteArray) (mo : Int) (us : List ByteArray) (Au : Option Addr) (nu cu : Nat) (rs : List RecC) (A : Option Addr) (c : Nat) (vs : List Value) (W : World) : Prop where
  below : Below W0.heap.size W0 W
  le : W0.heap.size ≤ b
  lt : b < W.heap.size
  usr : W.ownsRow W0.heap.size 9 1 (.slice Au nu cu) nu (sv us)
  une : some b ≠ (Value.slice Au nu cu).ownBlock
  four : Four W b (.string nm) (.int .i64 mo) (.slice Au nu cu) (.slice A rs.length c)
  own : W.ownsRow (b + 1) 28 2 (.slice A rs.length c) rs.length vs
  len : vs.length = rs.length * 2
  kept : ∀ j r, rs[j]? = some r → KeptAt W (b + 1) vs j r
variable {W0 W W5 W6 W7 : World} {b : Nat} {nm : ByteArray} {mo : Int} {us : List ByteArray} {Au : Option Addr} {nu cu : Nat} {rs : List RecC} {A : Option Addr} {c : Nat} {vs : List Value}
theorem own_not {w : World} {base n sz : Nat} {e : TypeId} {v : Value} {xs : List Value} {g : Nat} (h : w.ownsRow base e sz v n xs) (hg : some g ≠ v.ownBlock) (x : Value) (i : Nat) : (w.setCell ⟨g, i, none⟩ x).ownsRow base e sz v n xs := by
  refine h.kept (grown_set w g i x) ?_
  cases hv : v.ownBlock with
  | none => exact .inl rfl
  | some k =>
    right
    intro e1
    rw [hv, e1] at hg
    exact hg rfl
theorem OutTab.start (h : Below W0.heap.size W0 W) (hle : W0.heap.size ≤ b) (hlt : b < W.heap.size) (hu : W.ownsRow W0.heap.size 9 1 (.slice Au nu cu) nu (sv us)) (hne : some b ≠ (Value.slice Au nu cu).ownBlock) (f : Four W b (.string nm) (.int .i64 mo) (.slice Au nu cu) (.slice none 0 0)) : OutTab W0 b nm mo us Au nu cu [] none 0 [] W :=
  ⟨h, hle, hlt, hu, hne, f, World.ownsRow_nil _ _ _ _, rfl, fun j r hj => by simp at hj⟩
theorem OutTab.step (h : OutTab W0 b nm mo us Au nu cu rs A c vs W) (q : Below W.heap.size W W5) : OutTab W0 b nm mo us Au nu cu rs A c vs W5 :=
  ⟨h.below.trans (q.mono h.below.size), h.le, Nat.lt_of_lt_of_le h.lt q.size, own_below h.usr q (own_lt h.usr), h.une, h.four.below q h.lt, own_below h.own q (own_lt h.own), h.len, fun j r hj => by
    obtain ⟨k0, A', c', k1, k2⟩ := h.kept j r hj
    exact ⟨k0, A', c', k1, own_below k2 q (own_lt k2)⟩⟩
theorem OutTab.add {x : RecC} {A5 : Option Addr} {c5 : Nat} {A7 : Option Addr} {c7 : Nat} (h : OutTab W0 b nm mo us Au nu cu rs A c vs W6)
    (ho : W6.ownsRow (b + 1) 47 5 (.slice A5 x.data.length c5) x.data.length (cv x.data))
    (h7 : W7.ownsRow (b + 1) 28 2 (.slice A7 (rs.length + 1) c7) (rs.length + 1) (vs ++ [.string x.id, .slice A5 x.data.length c5])) (hg : W6.grownBy W7 (Value.slice A rs.length c).ownBlock) :
    OutTab W0 b nm mo us Au nu cu (rs ++ [x]) A7 c7 (vs ++ [.string x.id, .slice A5 x.data.length c5]) (W7.setCell ⟨b, 3, none⟩ (.slice A7 (rs.length + 1) c7)) := by
  have hne : some b ≠ (Value.slice A rs.length c).ownBlock := by
    intro e
    have := (h.own.lt b e.symm).1
    omega
  have f7 := h.four.grown hg hne
  have hl : (rs ++ [x]).length = rs.length + 1 := by simp
  have hlt7 : b < W7.heap.size := Nat.lt_of_lt_of_le h.lt hg.size
  have hle := h.le
  refine ⟨((h.below.grown hg h.below.size (fun k hk => by have := (h.own.lt k hk).1; omega)).setCell (by exact h.le) _), h.le, by simpa using hlt7, own_not (own_other h.usr h.own (by decide) hg) h.une _ _, h.une, ?_, ?_, ?_, ?_⟩
  · rw [hl]; exact f7.set3 _
  · rw [hl]; exact h7.kept (grown_set _ b 3 _) (own_ne_base h7 (by omega))
  · rw [hl, List.length_append, h.len]; simp; omega
  · intro j r hj
    have up : ∀ {A' : Option Addr} {c' : Nat} {y : RecC}, W6.ownsRow (b + 1) 47 5 (.slice A' y.data.length c') y.data.length (cv y.data) → (W7.setCell ⟨b, 3, none⟩ (.slice A7 (rs.length + 1) c7)).ownsRow (b + 1) 47 5 (.slice A' y.data.length c') y.data.length (cv y.data) := fun o => by
      have o7 := own_other o h.own (by decide) hg
      exact o7.kept (grown_set _ b 3 _) (own_ne_base o7 (by omega))
    rcases Nat.lt_or_ge j rs.length with g | g
    · rw [List.getElem?_append_left g] at hj
      obtain ⟨k0, A', c', k1, k2⟩ := h.kept j r hj
      exact ⟨by rw [List.getElem?_append_left (by rw [h.len]; omega)]; exact k0, A', c', by rw [List.getElem?_append_left (by rw [h.len]; omega)]; exact k1, up k2⟩
    · rw [List.getElem?_append_right g] at hj
      obtain ⟨rfl, rfl⟩ : j = rs.length ∧ r = x := by
        rcases Nat.eq_zero_or_pos (j - rs.length) with e | e
        · rw [e] at hj
          simp at hj
          exact ⟨by omega, hj.symm⟩
        · rw [List.getElem?_eq_none (by simp; omega)] at hj
          cases hj
      refine ⟨?_, A5, c5, ?_, up ho⟩
      · rw [List.getElem?_append_right (by rw [h.len]; omega), h.len]; simp
      · rw [List.getElem?_append_right (by rw [h.len]; omega), h.len, show rs.length * 2 + 1 - rs.length * 2 = 1 by omega]; rfl
/-- rows that are owned, read -/
theorem recs_of {base : Nat} (ho : W.ownsRow base 28 2 (.slice A rs.length c) rs.length vs) (hl : vs.length = rs.length * 2) (hk : ∀ j r, rs[j]? = some r → KeptAt W base vs j r) : Recs W W.heap.size A rs := by
  cases rs with
  | nil => exact .inl rfl
  | cons y l =>
    rcases ho.2 with ⟨h3, _⟩ | ⟨g, cap, cur, h3, hg, hh, hn, hc, hs, ht⟩
    · simp at h3
    · simp only [Value.slice.injEq] at h3
      obtain ⟨rfl, _, rfl⟩ := h3
      refine .inr ⟨g, 0, rfl, (Array.getElem?_eq_some_iff.1 hh).1, fun k hkk => ?_⟩
      obtain ⟨h0, A', c', h1, h2⟩ := hk k _ (List.getElem?_eq_getElem hkk)
      obtain ⟨A2, c2, e, e1, e2⟩ := own_slice h2
      simp only [Value.slice.injEq] at e
      obtain ⟨rfl, _, rfl⟩ := e
      have hcell : ∀ i v, vs[i]? = some v → W.cell? ⟨g, 0 + i, none⟩ = some v := fun i v hi => by
        have hil : i < vs.length := (List.getElem?_eq_some_iff.1 hi).1
        rw [Nat.zero_add, cell_of_row W g i cur _ (0, 0) hh]
        have e3 : cur.toList[i]? = vs[i]? := get_of_take ht (by rw [← hl]; exact hil)
        rw [← hi, ← e3]
        simp
      exact ⟨by have := hcell _ _ h0; simpa using this, A', c', by have := hcell _ _ h1; simpa [Nat.add_assoc] using this, ⟨rd_ofK2 h2, e1, e2⟩⟩
/-- rows in memory from base on -/
def OwnRows (W : World) (base : Nat) (A : Option Addr) (c : Nat) (rs : List RecC) : Prop := ∃ vs, W.ownsRow base 28 2 (.slice A rs.length c) rs.length vs ∧ vs.length = rs.length * 2 ∧ ∀ j r, rs[j]? = some r → KeptAt W base vs j r
theorem OwnRows.recs {base : Nat} (h : OwnRows W base A c rs) : Recs W W.heap.size A rs := by
  obtain ⟨vs, h1, h2, h3⟩ := h
  exact recs_of h1 h2 h3
theorem OwnRows.mono {base base' : Nat} (h : OwnRows W base A c rs) (hb : base' ≤ base) : OwnRows W base' A c rs := by
  obtain ⟨vs, h1, h2, h3⟩ := h
  refine ⟨vs, own_base h1 hb, h2, fun j r hj => ?_⟩
  obtain ⟨k0, A', c', k1, k2⟩ := h3 j r hj
  exact ⟨k0, A', c', k1, own_base k2 hb⟩
theorem OwnRows.grown {base g : Nat} {W' : World} (h : OwnRows W base A c rs) (hg : W.grownBy W' (some g)) (hb : g < base) : OwnRows W' base A c rs := by
  obtain ⟨vs, h1, h2, h3⟩ := h
  refine ⟨vs, h1.kept hg (own_ne_base h1 hb), h2, fun j r hj => ?_⟩
  obtain ⟨k0, A', c', k1, k2⟩ := h3 j r hj
  exact ⟨k0, A', c', k1, k2.kept hg (own_ne_base k2 hb)⟩
theorem OwnRows.nil {base : Nat} : OwnRows W base none 0 [] := ⟨[], World.ownsRow_nil _ _ _ _, rfl, fun j r hj => by simp at hj⟩
theorem OwnRows.below {base : Nat} {W' : World} (h : OwnRows W base A c rs) (q : Below W.heap.size W W') : OwnRows W' base A c rs := by
  obtain ⟨vs, h1, h2, h3⟩ := h
  refine ⟨vs, own_below h1 q (own_lt h1), h2, fun j r hj => ?_⟩
  obtain ⟨k0, A', c', k1, k2⟩ := h3 j r hj
  exact ⟨k0, A', c', k1, own_below k2 q (own_lt k2)⟩
/-- stores into an old block leave what is owned -/
theorem OutTab.put (h : OutTab W0 b nm mo us Au nu cu rs A c vs W) {g : Nat} (hg : g < W0.heap.size) (v0 v1 v2 v3 : Value) :
    ((((W.setCell ⟨g, 0, none⟩ v0).setCell ⟨g, 1, none⟩ v1).setCell ⟨g, 2, none⟩ v2).setCell ⟨g, 3, none⟩ v3).ownsRow W0.heap.size 9 1 (.slice Au nu cu) nu (sv us) ∧
      OwnRows ((((W.setCell ⟨g, 0, none⟩ v0).setCell ⟨g, 1, none⟩ v1).setCell ⟨g, 2, none⟩ v2).setCell ⟨g, 3, none⟩ v3) W0.heap.size A c rs := by
  have hle := h.le
  have gz := grown_four W g v0 v1 v2 v3
  exact ⟨h.usr.kept gz (own_ne_base h.usr hg), OwnRows.grown (OwnRows.mono ⟨vs, h.own, h.len, h.kept⟩ (by omega)) gz hg⟩
theorem grown_undrew {w w' : World} {r : Option Nat} (h : w.drew.grownBy w' r) : w.grownBy w' r := ⟨h.os, h.tape, h.output, h.size, h.block⟩
theorem rec_one (id : ByteArray) (A : Option Addr) (n c : Nat) : ∀ u ∈ [Value.string id, Value.slice A n c], u.oneCell' = true := by
  intro u hu
  simp only [List.mem_cons, List.not_mem_nil, or_false] at hu
  rcases hu with rfl | rfl <;> rfl
theorem blk_gr {w w2 : World} {cs : Array Value} {T : TypeId} (q : (w.alloc (.cells cs T)).grownBy w2 none) : w2.heap[w.heap.size]? = some (.cells cs T (0, 0)) :=
  (q.block _ (by simp) (by simp)).trans (by simp only [heap_alloc_new])
theorem blk_grD {w w2 : World} {cs : Array Value} {T : TypeId} (q : (w.alloc (.cells cs T)).drew.grownBy w2 none) : w2.heap[w.heap.size]? = some (.cells cs T (0, 0)) :=
  (q.block _ (show w.heap.size < (w.alloc (.cells cs T)).heap.size by simp) (by simp)).trans (show (w.alloc (.cells cs T)).heap[w.heap.size]? = _ by simp only [heap_alloc_new])
theorem une_cells {w : World} {b n sz : Nat} {e e' : TypeId} {v : Value} {xs : List Value} {g : Nat} {L : Array Value} (h : w.ownsRow b e sz v n xs) (hg : w.heap[g]? = some (.cells L e' (0, 0))) (he : e ≠ e') : some g ≠ v.ownBlock := by
  intro e1
  rcases own_ne_cells h hg he with h1 | h1
  · rw [h1] at e1; cases e1
  · exact h1 e1.symm
theorem une_lt {w : World} {b n sz : Nat} {e : TypeId} {v : Value} {xs : List Value} {g : Nat} (h : w.ownsRow b e sz v n xs) (hg : w.heap.size ≤ g) : some g ≠ v.ownBlock := by
  intro e1
  have := own_lt h g e1.symm
  omega
theorem four_gr {w w2 : World} {v0 v1 v2 v3 : Value} {T : TypeId} (q : (w.alloc (.cells #[v0, v1, v2, v3] T)).grownBy w2 none) : Four w2 w.heap.size v0 v1 v2 v3 := (Four.new w v0 v1 v2 v3 T).grown q (by simp)
theorem four_grD {w w2 : World} {v0 v1 v2 v3 : Value} {T : TypeId} (q : (w.alloc (.cells #[v0, v1, v2, v3] T)).drew.grownBy w2 none) : Four w2 w.heap.size v0 v1 v2 v3 := by
  have f := Four.new w v0 v1 v2 v3 T
  exact Four.grown (W := (w.alloc (.cells #[v0, v1, v2, v3] T)).drew) ⟨f.c0, f.c1, f.c2, f.c3, f.f⟩ q (by simp)
end Go.Proofs.YtcgioepbooafcaaGreatDoor
