/- copy between rows of elements of several cells; a record, a table in new memory. Conditions: lengths within the model's; Go's two tables of utf8. A table in new memory. Conditions: lengths within the model's; Go's two tables of utf8. -/
import Derived.Test.YtcgioepbooafcaaGreatDoorMCheck
import Derived.Laws.CopyOwn
import Derived.Laws.ResultCell
import Derived.Deep.RegionHeld3
import Derived.Deep.AppendLies
namespace Go.Proofs.YtcgioepbooafcaaGreatDoor
section
open Go.RowKit
theorem run_copy_rowK {P : Program} (w : World) (dT sT ty elem : TypeId) (g o dLen dCap : Nat) (a : Addr) (sLen sCap : Nat) (cur : Array Value) (t : TypeId) (cs : List Value) (k n : Nat)
    (hu : P.underlying dT = some (.slice elem)) (hs : (P.info? elem).map (·.size) = some k)
    (hg : w.heap[g]? = some (.cells cur t (0, 0))) (hn : n = Nat.min sLen dLen) (hlen : cs.length = n * k)
    (hsrc : ∀ j v, cs[j]? = some v → w.cell? (a.add j) = some v) (hfit : o + cs.length ≤ cur.size) (h1 : ∀ v ∈ cs, v.oneCell' = true) :
    (Builtin.copy_ #[dT, sT] ty #[.slice (some ⟨g, o, none⟩) dLen dCap, .slice (some a) sLen sCap]).run P w =
      .ok (goInt n) (w.setRow g (cur.toList.take o ++ cs ++ cur.toList.drop (o + cs.length)).toArray) := by
  have hl := run_loadCells_list (P := P) w a cs hsrc
  have hst := run_storeCells_at P g o t cs 0 cur w hg (by simpa using hfit) h1
  rw [hlen] at hl
  cases hq : P.info? elem with
  | none => simp [hq] at hs
  | some i =>
    have hi : i.size = k := by simpa [hq] using hs
    simp [Builtin.copy_, run_underlying hu, Builtin.lenOf, Builtin.firstCells, sizeOf, typeInfo, hq, hi, ← hn, hl, hst]
theorem run_copy_noneK {P : Program} (w : World) (dT sT ty elem : TypeId) (d a : Option Addr) (dLen dCap sLen sCap k : Nat) (hu : P.underlying dT = some (.slice elem)) (hs : (P.info? elem).map (·.size) = some k) (hn : Nat.min sLen dLen = 0) :
    (Builtin.copy_ #[dT, sT] ty #[.slice d dLen dCap, .slice a sLen sCap]).run P w = .ok (goInt 0) w := by
  cases hq : P.info? elem with
  | none => simp [hq] at hs
  | some i =>
    have hl : ∀ (x : Addr), (loadCells x 0).run P w = .ok #[] w := fun x => by simpa using run_loadCells_list (P := P) w x [] (by simp)
    cases d <;> cases a <;> simp [Builtin.copy_, run_underlying hu, Builtin.lenOf, Builtin.firstCells, sizeOf, typeInfo, hq, hn, storeCells, hl]
theorem run_copyK {P : Program} (w : World) (dT sT ty elem : TypeId) (dp sp : Option Addr) (dLen dCap sLen sCap : Nat) (g off : Nat) (cur : List Value) (t : TypeId) (cs : List Value) (k n : Nat)
    (hu : P.underlying dT = some (.slice elem)) (hs : (P.info? elem).map (·.size) = some k)
    (hg : w.heap[g]? = some (.cells cur.toArray t (0, 0))) (hn : n = Nat.min sLen dLen) (hlen : cs.length = n * k)
    (hpos : 0 < n → dp = some ⟨g, off, none⟩ ∧ ∃ ad, sp = some ad ∧ ∀ j v, cs[j]? = some v → w.cell? (ad.add j) = some v)
    (hfit : off + cs.length ≤ cur.length) (h1 : ∀ v ∈ cs, v.oneCell' = true) (B : Nat) (w0 : World) (hb : Below B w0 w) (hBg : B ≤ g) :
    ∃ w', (Builtin.copy_ #[dT, sT] ty #[.slice dp dLen dCap, .slice sp sLen sCap]).run P w = .ok (goInt n) w' ∧ w'.heap[g]? = some (.cells (splice cur off cs).toArray t (0, 0)) ∧ Below B w0 w' ∧ w.grownBy w' (some g) := by
  by_cases h0 : n = 0
  · subst h0
    obtain rfl : cs = [] := List.eq_nil_of_length_eq_zero (by omega)
    exact ⟨w, run_copy_noneK w dT sT ty elem dp sp dLen dCap sLen sCap k hu hs hn.symm, by simpa [splice] using hg, hb, ⟨rfl, rfl, rfl, Nat.le_refl _, fun _ _ _ => rfl⟩⟩
  · obtain ⟨rfl, ad, rfl, hsrc⟩ := hpos (by omega)
    refine ⟨_, run_copy_rowK w dT sT ty elem g off dLen dCap ad sLen sCap cur.toArray t cs k n hu hs hg hn hlen hsrc (by simpa using hfit) h1, by simpa [splice] using setRow_heap w g _ _ t _ hg, below_setRow hb hBg _, ⟨rfl, rfl, rfl, by simp [World.setRow], fun i _ hne => setRow_other w g i _ (fun e => hne (by rw [e]))⟩⟩
theorem wpList_copyK {P : Program} {w : World} {ops : Array Oper} {rest : List Oper} {o : Oper} {a : Act} {Q : Exit → Act → World → Prop} (hgd : o.guard = none) (d s : Operand) (dT sT : TypeId)
    (ho : o.op = .call { callee := .builtin .copy, args := #[d, s], argTypes := #[dT, sT] }) (elem : TypeId) (k : Nat) (hu : P.underlying dT = some (.slice elem)) (hsz : (P.info? elem).map (·.size) = some k)
    (dp sp : Option Addr) (dLen dCap sLen sCap : Nat) (hd : a.eval d = .slice dp dLen dCap) (hs : a.eval s = .slice sp sLen sCap)
    (g off : Nat) (cur : List Value) (t : TypeId) (hg : w.heap[g]? = some (.cells cur.toArray t (0, 0))) (cs : List Value) (n : Nat) (hn : n = Nat.min sLen dLen) (hlen : cs.length = n * k)
    (hpos : 0 < n → dp = some ⟨g, off, none⟩ ∧ ∃ ad, sp = some ad ∧ ∀ j v, cs[j]? = some v → w.cell? (ad.add j) = some v)
    (hfit : off + cs.length ≤ cur.length) (h1 : ∀ v ∈ cs, v.oneCell' = true) (B : Nat) (w0 : World) (hb : Below B w0 w) (hBg : B ≤ g)
    (h : ∀ w', Hid (w'.heap[g]? = some (.cells (splice cur off cs).toArray t (0, 0))) → Below B w0 w' → w.grownBy w' (some g) → wpList P ops Q rest (a.put o.dst (goInt n)) w') :
    wpList P ops Q (o :: rest) a w := by
  refine wpList_plain hgd fun K hK => ?_
  obtain ⟨w', hrun, r1, r2, r3⟩ := run_copyK (P := P) w dT sT o.type elem dp sp dLen dCap sLen sCap g off cur t cs k n hu hsz hg hn hlen hpos hfit h1 B w0 hb hBg
  unfold Oper.wp
  simp [execOp, ho, resolve, invoke, builtin, hd, hs, hrun, Result.andThen]
  exact hK _ _ (h w' r1 r2 r3)
theorem own_of_cells {w : World} {base g n c sz : Nat} {e : TypeId} {xs : List Value} (hb : base ≤ g) (hg : w.heap[g]? = some (.cells xs.toArray e (0, 0))) (hl : xs.length = c * sz) (hn : n ≤ c) (hc : c ≤ maxLen) : w.ownsRow base e sz (.slice (some ⟨g, 0, none⟩) n c) n (xs.take (n * sz)) := by
  refine ⟨?_, .inr ⟨g, c, xs.toArray, rfl, hb, hg, hn, hc, by simpa using hl, by simp⟩⟩
  rw [List.length_take, hl]
  exact Nat.min_eq_left (Nat.mul_le_mul_right _ hn)
theorem info_cell5 : (Tryz.prog.info? 47).map (·.size) = some 5 := by kernel_rfl
theorem info_rec2 : (Tryz.prog.info? 28).map (·.size) = some 2 := by kernel_rfl
theorem info_rec : (Tryz.prog.info? 28).map (fun i => (i.zero, i.size, i.bytes)) = some (some (.agg #[.string ⟨#[]⟩, .slice none 0 0]), 2, 40) := by kernel_rfl
theorem results_cell1 {fn : Func} {p : Tmp} {ty : TypeId} (h : fn.results = #[.cell p ty]) (tmps : Array Value) (P : Program) (w : World) :
    (results fn tmps).run P w = ((asAddr (tmps.getD p undef)).run P w).andThen fun a w₁ => (loadVar ty a).run P w₁ := by
  simp only [results, h]
  simp [Sem.run_bind, Result.andThen]
theorem load_rec1 (W : World) (g : Nat) (a b : Value) (h0 : W.cell? ⟨g, 0, none⟩ = some a) (h1 : W.cell? ⟨g, 1, none⟩ = some b) (ha : ∃ s, a = .string s) (hb : ∃ A n c, b = .slice A n c) :
    ((asAddr (.pointer (some ⟨g, 0, none⟩))).run Tryz.prog W).andThen (fun a w₁ => (loadVar 28 a).run Tryz.prog w₁) = .ok (.agg #[a, b]) W := by
  obtain ⟨s, rfl⟩ := ha
  obtain ⟨A, n, c, rfl⟩ := hb
  go_simp
theorem load_rec (W : World) (g : Nat) (a b : Value) (h0 : W.cell? ⟨g, 0, none⟩ = some a) (h1 : W.cell? ⟨g, 1, none⟩ = some b) (ha : ∃ s, a = .string s) (hb : ∃ A n c, b = .slice A n c) :
    (loadVar 28 ⟨g, 0, none⟩).run Tryz.prog W = .ok (.agg #[a, b]) W := by
  obtain ⟨s, rfl⟩ := ha
  obtain ⟨A, n, c, rfl⟩ := hb
  go_simp
/-- the two boxes of twin -/
def BoxesR (w : World) (id : ByteArray) (A : Option Addr) (n c : Nat) (W : World) : Prop :=
  W.cell? ⟨w.heap.size, 0, none⟩ = some (.string id) ∧ W.cell? ⟨w.heap.size, 1, none⟩ = some (.slice A n c) ∧ W.cell? ⟨w.heap.size + 1, 0, none⟩ = some (.string ⟨#[]⟩) ∧ W.cell? ⟨w.heap.size + 1, 1, none⟩ = some (.slice none 0 0) ∧
    W.frozen? ⟨w.heap.size + 1, 0, none⟩ = false ∧ W.frozen? ⟨w.heap.size + 1, 1, none⟩ = false ∧ w.heap.size + 1 + 1 ≤ W.heap.size
theorem frozen_new (w : World) (cs : Array Value) (T : TypeId) (i : Nat) : (w.alloc (.cells cs T)).frozen? ⟨w.heap.size, i, none⟩ = false := by
  simp only [World.frozen?, heap_alloc_new]
  simp
theorem boxes_mk (w : World) (id : ByteArray) (A : Option Addr) (n c : Nat) {W : World} (q : Below ((w.alloc (.cells #[.string id, .slice A n c] 28)).alloc (.cells #[.string ⟨#[]⟩, .slice none 0 0] 28)).heap.size ((w.alloc (.cells #[.string id, .slice A n c] 28)).alloc (.cells #[.string ⟨#[]⟩, .slice none 0 0] 28)) W) : BoxesR w id A n c W := by
  have e : (w.alloc (.cells #[.string id, .slice A n c] 28)).heap.size = w.heap.size + 1 := by simp
  have b1 : Below (w.alloc (.cells #[.string id, .slice A n c] 28)).heap.size (w.alloc (.cells #[.string id, .slice A n c] 28)) W := ((Below.refl _ _).alloc (Nat.le_refl _) _).trans (q.mono (by simp))
  have g0 := box_keep b1 0 (by simp)
  have g1 := box_keep b1 1 (by simp)
  have g2 := box_keep q 0 (by simp)
  have g3 := box_keep q 1 (by simp)
  have f2 := (q.frozen (p := ⟨(w.alloc (.cells #[.string id, .slice A n c] 28)).heap.size, 0, none⟩) (by simp)).trans (frozen_new _ _ _ _)
  have f3 := (q.frozen (p := ⟨(w.alloc (.cells #[.string id, .slice A n c] 28)).heap.size, 1, none⟩) (by simp)).trans (frozen_new _ _ _ _)
  rw [e] at g2 g3 f2 f3
  have hs := q.size
  simp only [World.size_alloc] at hs
  exact ⟨g0, g1, g2, g3, f2, f3, hs⟩
theorem own_made {w : World} {base g n sz : Nat} {e : TypeId} {xs : List Value} (h : w.ownsRow base e sz (.slice (some ⟨g, 0, none⟩) n n) n xs) : ∃ L : List Value, w.heap[g]? = some (.cells L.toArray e (0, 0)) ∧ L.length = n * sz := by
  rcases h.2 with ⟨h3, _⟩ | ⟨g', cap, cur, h3, _, hh, _, _, hs, _⟩
  · simp at h3
  · simp only [Value.slice.injEq, Option.some.injEq, Addr.mk.injEq, and_true] at h3
    obtain ⟨rfl, _, rfl⟩ := h3
    exact ⟨cur.toList, by simpa using hh, by simpa using hs⟩
theorem mid_copy {w w1 : World} {B n : Nat} {A : Option Addr} {xs : List Cel} {L : List Value} {g : Nat} (H : Rd w B A (cv xs) ∧ B ≤ w.heap.size ∧ xs.length = n) (hb : Below w.heap.size w w1) (hL : L.length = n * 5) :
    (cv xs).length = n * 5 ∧ (0 < n → some (⟨g, 0, none⟩ : Addr) = some ⟨g, 0, none⟩ ∧ ∃ ad, A = some ad ∧ ∀ j v, (cv xs)[j]? = some v → w1.cell? (ad.add j) = some v) ∧ 0 + (cv xs).length ≤ L.length := by
  obtain ⟨h1, h2, h3⟩ := H
  have hl : (cv xs).length = n * 5 := by rw [cv_len, h3]
  refine ⟨hl, fun hn => ⟨rfl, ?_⟩, by omega⟩
  obtain ⟨b, off, e, hbb, hc⟩ := (h1.thru hb h2).at' (k := 0) (by omega)
  refine ⟨_, e, fun j v hj => ?_⟩
  obtain ⟨hj', rfl⟩ := List.getElem?_eq_some_iff.1 hj
  rw [Addr.add_lit]
  exact hc j hj'
def TwinPost (r : RecC) (w : World) (e : Ending) (w' : World) : Prop := ∃ A c, e = .returned (.agg #[.string r.id, .slice A r.data.length c]) ∧ w'.ownsRow w.heap.size 47 5 (.slice A r.data.length c) r.data.length (cv r.data) ∧ Below w.heap.size w w'
set_option maxRecDepth 100000 in
set_option maxHeartbeats 8000000 in
theorem twin_rec (r : RecC) (A : Option Addr) (c : Nat) (w : World) {B : Nat} (h : Rd w B A (cv r.data)) (hB : B ≤ w.heap.size) (hn : r.data.length ≤ 1000000) :
    Calls Tryz.prog 25 #[.agg #[.string r.id, .slice A r.data.length c]] w fun e w' => TwinPost r w e w' := by
  obtain ⟨i0, hi, hz0, hz1, hz2⟩ := info_parts info_cell
  obtain ⟨n, hnn⟩ : ∃ n, r.data.length = n := ⟨_, rfl⟩
  have hX : Below w.heap.size w ((w.alloc (.cells #[.string r.id, .slice A n c] 28)).alloc (.cells #[.string ⟨#[]⟩, .slice none 0 0] 28)) := ((Below.refl _ _).alloc (Nat.le_refl _) _).alloc (by simp) _
  have hsx := hX.size
  unfold TwinPost
  have H := Lib.hid (And.intro h (And.intro hB hnn))
  rw [hnn] at hn ⊢
  clear h hB hnn
  go_enter Tryz.func25, Tryz.ntmps25
  have y1 : ∀ W, ((w.alloc (.cells #[.string r.id, .slice A n c] 28)).alloc (.cells #[.string ⟨#[]⟩, .slice none 0 0] 28)).grownBy W none → BoxesR w r.id A n c W := fun W g => boxes_mk w r.id A n c ((Below.refl _ _).grown g (Nat.le_refl _) (fun k hk => by cases hk))
  have HY := Lib.hid y1
  clear y1
  go_wp2_with (first
    | (at_make; refine wpList_make_full _ (by rfl) _ _ _ (by rfl) w.heap.size 47 i0 (.agg #[.int .u8 0, .string ⟨#[]⟩, .string ⟨#[]⟩, .int .i64 0, .int .i64 0]) 5 Tryz.underlying26 hi hz0 hz1 .i64 .i64 _ _ n (by rfl) (by rfl) rfl rfl (by rw [hz2]; omega) (by unfold maxLen; omega) hsx ?_; intro w1 ho1 hg1; have hy1 := HY.out w1 hg1; obtain ⟨k0, k1, k2, k3, f2, f3, hz⟩ := hy1; have hb1 := hX.grown hg1 hsx (fun k hk => by cases hk); obtain ⟨L, hL1, hL2⟩ := own_made ho1; simp only [World.size_alloc] at hL1; have hm := mid_copy (g := w.heap.size + 1 + 1) H.out hb1 hL2)
    | (with_reducible refine wpList_copyK rfl (.tmp 8) (.tmp 10) 26 26 rfl 47 5 Tryz.underlying26 info_cell5 (some ⟨w.heap.size + 1 + 1, 0, none⟩) A n n n c rfl rfl (w.heap.size + 1 + 1) 0 L 47 hL1 (cv r.data) n (Nat.min_self n).symm hm.1 hm.2.1 hm.2.2 cv_one (w.heap.size + 1 + 1) w1 (Below.refl _ _) (Nat.le_refl _) ?_; intro w2 hg2 hb2 hgr2; have j0 := (hb2.cell (p := ⟨w.heap.size, 0, none⟩) (by show w.heap.size < _; omega)).trans k0; have j2 := (hb2.cell (p := ⟨w.heap.size + 1, 0, none⟩) (by show w.heap.size + 1 < _; omega)).trans k2; have j3 := (hb2.cell (p := ⟨w.heap.size + 1, 1, none⟩) (by show w.heap.size + 1 < _; omega)).trans k3; have l2 := (hb2.frozen (p := ⟨w.heap.size + 1, 0, none⟩) (by show w.heap.size + 1 < _; omega)).trans f2; have l3 := (hb2.frozen (p := ⟨w.heap.size + 1, 1, none⟩) (by show w.heap.size + 1 < _; omega)).trans f3))
  have hsp : splice L 0 (cv r.data) = cv r.data := by
    have := hm.1
    simp [splice, List.drop_of_length_le (show L.length ≤ (cv r.data).length by omega)]
  rw [hsp] at hg2
  have hB2 : Below w.heap.size w w2 := hb1.trans (hb2.mono (by omega))
  have hown : w2.ownsRow w.heap.size 47 5 (.slice (some ⟨w.heap.size + 1 + 1, 0, none⟩) n n) n (cv r.data) := by
    have := own_of_cells (w := w2) (base := w.heap.size) (n := n) (c := n) (sz := 5) (by omega) hg2 hm.1 (Nat.le_refl _) (by unfold maxLen; omega)
    rwa [List.take_of_length_le (by rw [hm.1]; exact Nat.le_refl _)] at this
  have hsx2 := hb2.size
  have q0 : ∀ u0 u1, ((w2.setCell ⟨w.heap.size + 1, 0, none⟩ u0).setCell ⟨w.heap.size + 1, 1, none⟩ u1).cell? ⟨w.heap.size + 1, 0, none⟩ = some u0 := fun u0 u1 => by
    rw [World.cell?_setCell_other _ _ _ _ (by simp)]
    exact World.cell?_setCell_same _ _ _ j2
  have q1 : ∀ u0 u1, ((w2.setCell ⟨w.heap.size + 1, 0, none⟩ u0).setCell ⟨w.heap.size + 1, 1, none⟩ u1).cell? ⟨w.heap.size + 1, 1, none⟩ = some u1 := fun u0 u1 =>
    World.cell?_setCell_same _ _ _ ((World.cell?_setCell_other _ _ _ _ (by simp)).trans j3)
  refine bodyPost_ret (v := .agg #[.string r.id, .slice (some ⟨w.heap.size + 1 + 1, 0, none⟩) n n]) ?_ rfl ⟨_, _, rfl, ?_, ?_⟩
  · rw [results_cell1 rfl]
    exact load_rec1 _ _ _ _ (q0 _ _) (q1 _ _) ⟨_, rfl⟩ ⟨_, _, _, rfl⟩
  · have hlt : ∀ g, (Value.slice (some ⟨w.heap.size + 1 + 1, 0, none⟩) n n).ownBlock = some g → w.heap.size + 1 < g := by
      intro g hg
      simp only [Value.ownBlock, Option.some.injEq] at hg
      omega
    have k := fun (W : World) (u : Value) (i : Nat) (h : W.ownsRow w.heap.size 47 5 (.slice (some ⟨w.heap.size + 1 + 1, 0, none⟩) n n) n (cv r.data)) =>
      h.kept (grown_set W (w.heap.size + 1) i u) (.inr (by intro e; have := hlt _ e; omega))
    exact k _ _ _ (k _ _ _ hown)
  · exact (hB2.setCell (by show w.heap.size ≤ w.heap.size + 1; omega) _).setCell (by show w.heap.size ≤ w.heap.size + 1; omega) _
end
section
open Go.RowKit
theorem info_str1 : (Tryz.prog.info? 9).map (fun i => (i.zero, i.size, i.bytes)) = some (some (.string ⟨#[]⟩), 1, 16) := by kernel_rfl
theorem eql_nilS (w : World) (a : Option Addr) (n c n' c' : Nat) : (binOp .eql 22 (.slice a n c) (.slice none n' c')).run Tryz.prog w = .ok (.bool a.isNone) w :=
  Lib.run_eql_slice_nil w _ _ a n c n' c' Tryz.underlying22
set_option maxHeartbeats 2000000 in
theorem clone_strs (A : Option Addr) (c : Nat) (xs : List ByteArray) (w : World) {B : Nat} (hx : Rd w B A (sv xs)) (hB : B ≤ w.heap.size) (hn : xs.length ≤ 1000) :
    Calls Tryz.prog 47 #[.slice A xs.length c] w fun e w' => ∃ v, e = .returned v ∧ w'.ownsRow w.heap.size 9 1 v xs.length (sv xs) ∧ Below w.heap.size w w' := by
  have hq := eql_nilS
  obtain ⟨i2, hi2, hs0, hs1, hs2⟩ := info_parts info_str1
  rcases A with _ | a
  · have hxs : xs = [] := by
      rcases hx with h | ⟨b, off, e, _⟩
      · simpa [sv] using h
      · cases e
    subst hxs
    go_enter Tryz.func47, Tryz.ntmps47
    go_wp2
    go_ret
    exact ⟨_, rfl, ⟨rfl, .inl ⟨rfl, rfl⟩⟩, Below.refl _ _⟩
  · obtain ⟨n, hnn⟩ : ∃ n, xs.length = n := ⟨_, rfl⟩
    have hX : Below w.heap.size w (w.alloc (.cells #[] 9)) := (Below.refl _ _).alloc (Nat.le_refl _) _
    have ho : (w.alloc (.cells #[] 9)).ownsRow w.heap.size 9 1 (.slice (some ⟨w.heap.size, 0, none⟩) 0 0) 0 [] :=
      ⟨rfl, .inr ⟨w.heap.size, 0, #[], rfl, Nat.le_refl _, by simp only [heap_alloc_new], Nat.le_refl _, by unfold maxLen; omega, rfl, rfl⟩⟩
    have hr := hx.thru hX hB
    have hl : (sv xs).length = n := by rw [sv_len, hnn]
    have hsz := hX.size
    have H := Lib.hid (And.intro hX hnn)
    rw [hnn] at hn ⊢
    clear hx hnn hX
    go_enter Tryz.func47, Tryz.ntmps47
    go_wp2_with (at_builtin; refine wpList_append_rd _ (by rfl) _ _ _ (by rfl) w.heap.size 9 i2 (.string ⟨#[]⟩) 16 Tryz.underlying22 hi2 hs0 hs1 hs2 (by rfl) (.slice (some ⟨w.heap.size, 0, none⟩) 0 0) 0 [] (by rfl) ho (some a) n c (sv xs) (by rfl) hr hl sv_one' (by unfold maxLen; omega) (by omega) hsz ?_; intro v3 u4 ho4 hg4 hr4)
    go_ret
    exact ⟨_, rfl, by simpa using ho4, H.out.1.grown hg4 hsz hr4⟩
def tcells (t : TabC) (Au : Option Addr) (cu : Nat) (Ar : Option Addr) (cr : Nat) : Array Value := #[.string t.name, .int .i64 t.most, .slice Au t.us.length cu, .slice Ar t.rows.length cr]
def zcells : Array Value := #[.string ⟨#[]⟩, .int .i64 0, .slice none 0 0, .slice none 0 0]
/-- four cells at a block that may be written -/
structure Four (W : World) (b : Nat) (v0 v1 v2 v3 : Value) : Prop where
  c0 : W.cell? ⟨b, 0, none⟩ = some v0
  c1 : W.cell? ⟨b, 1, none⟩ = some v1
  c2 : W.cell? ⟨b, 2, none⟩ = some v2
  c3 : W.cell? ⟨b, 3, none⟩ = some v3
  f : ∀ i, W.frozen? ⟨b, i, none⟩ = false
theorem Four.grown {W W' : World} {b : Nat} {v0 v1 v2 v3 : Value} (h : Four W b v0 v1 v2 v3) {r : Option Nat} (hg : W.grownBy W' r) (hne : some b ≠ r) : Four W' b v0 v1 v2 v3 :=
  ⟨hg.cell h.c0 hne, hg.cell h.c1 hne, hg.cell h.c2 hne, hg.cell h.c3 hne, fun i => (hg.frozen_far ⟨b, i, none⟩ (show b < W.heap.size from World.block_lt_of_cell? W ⟨b, 0, none⟩ h.c0) hne).trans (h.f i)⟩
theorem Four.below {W W' : World} {b : Nat} {v0 v1 v2 v3 : Value} (h : Four W b v0 v1 v2 v3) {B : Nat} (hb : Below B W W') (hB : b < B) : Four W' b v0 v1 v2 v3 :=
  ⟨(hb.cell (p := ⟨b, 0, none⟩) hB).trans h.c0, (hb.cell (p := ⟨b, 1, none⟩) hB).trans h.c1, (hb.cell (p := ⟨b, 2, none⟩) hB).trans h.c2, (hb.cell (p := ⟨b, 3, none⟩) hB).trans h.c3, fun i => (hb.frozen (p := ⟨b, i, none⟩) hB).trans (h.f i)⟩
theorem Four.new (w : World) (v0 v1 v2 v3 : Value) (T : TypeId) : Four (w.alloc (.cells #[v0, v1, v2, v3] T)) w.heap.size v0 v1 v2 v3 :=
  ⟨box_keep (Below.refl _ _) 0 (by simp), box_keep (Below.refl _ _) 1 (by simp), box_keep (Below.refl _ _) 2 (by simp), box_keep (Below.refl _ _) 3 (by simp), fun i => frozen_new _ _ _ i⟩
theorem Four.set0 {W : World} {b : Nat} {v0 v1 v2 v3 : Value} (h : Four W b v0 v1 v2 v3) (x : Value) : Four (W.setCell ⟨b, 0, none⟩ x) b x v1 v2 v3 :=
  ⟨World.cell?_setCell_same _ _ _ h.c0, (World.cell?_setCell_other _ _ _ _ (by simp)).trans h.c1, (World.cell?_setCell_other _ _ _ _ (by simp)).trans h.c2, (World.cell?_setCell_other _ _ _ _ (by simp)).trans h.c3, fun i => by rw [World.frozen?_setCell]; exact h.f i⟩
theorem Four.set1 {W : World} {b : Nat} {v0 v1 v2 v3 : Value} (h : Four W b v0 v1 v2 v3) (x : Value) : Four (W.setCell ⟨b, 1, none⟩ x) b v0 x v2 v3 :=
  ⟨(World.cell?_setCell_other _ _ _ _ (by simp)).trans h.c0, World.cell?_setCell_same _ _ _ h.c1, (World.cell?_setCell_other _ _ _ _ (by simp)).trans h.c2, (World.cell?_setCell_other _ _ _ _ (by simp)).trans h.c3, fun i => by rw [World.frozen?_setCell]; exact h.f i⟩
theorem load_tab1 (W : World) (g : Nat) {nm : ByteArray} {mo : Int} {A A' : Option Addr} {n c n' c' : Nat} (h : Four W g (.string nm) (.int .i64 mo) (.slice A n c) (.slice A' n' c')) :
    ((asAddr (.pointer (some ⟨g, 0, none⟩))).run Tryz.prog W).andThen (fun a w₁ => (loadVar 25 a).run Tryz.prog w₁) = .ok (.agg #[.string nm, .int .i64 mo, .slice A n c, .slice A' n' c']) W := by
  obtain ⟨h0, h1, h2, h3, _⟩ := h
  go_simp
theorem Four.set2 {W : World} {b : Nat} {v0 v1 v2 v3 : Value} (h : Four W b v0 v1 v2 v3) (x : Value) : Four (W.setCell ⟨b, 2, none⟩ x) b v0 v1 x v3 :=
  ⟨(World.cell?_setCell_other _ _ _ _ (by simp)).trans h.c0, (World.cell?_setCell_other _ _ _ _ (by simp)).trans h.c1, World.cell?_setCell_same _ _ _ h.c2, (World.cell?_setCell_other _ _ _ _ (by simp)).trans h.c3, fun i => by rw [World.frozen?_setCell]; exact h.f i⟩
theorem Four.set3 {W : World} {b : Nat} {v0 v1 v2 v3 : Value} (h : Four W b v0 v1 v2 v3) (x : Value) : Four (W.setCell ⟨b, 3, none⟩ x) b v0 v1 v2 x :=
  ⟨(World.cell?_setCell_other _ _ _ _ (by simp)).trans h.c0, (World.cell?_setCell_other _ _ _ _ (by simp)).trans h.c1, (World.cell?_setCell_other _ _ _ _ (by simp)).trans h.c2, World.cell?_setCell_same _ _ _ h.c3, fun i => by rw [World.frozen?_setCell]; exact h.f i⟩
theorem Four.setOther {W : World} {b b' i : Nat} {v0 v1 v2 v3 : Value} (h : Four W b v0 v1 v2 v3) (hne : b ≠ b') (x : Value) : Four (W.setCell ⟨b', i, none⟩ x) b v0 v1 v2 v3 := h.grown (grown_set _ _ _ _) (by simpa using hne)
theorem set_cells {w : World} {g : Nat} {vs : List Value} {T : TypeId} (h : w.heap[g]? = some (.cells vs.toArray T (0, 0))) (i : Nat) (v : Value) : (w.setCell ⟨g, i, none⟩ v).heap[g]? = some (.cells (vs.set i v).toArray T (0, 0)) := by
  simp [World.setCell, Array.getElem?_modify, h]
theorem own_ne_cells {w : World} {b n sz : Nat} {e e' : TypeId} {v : Value} {xs : List Value} {g : Nat} {L : Array Value} (h : w.ownsRow b e sz v n xs) (hg : w.heap[g]? = some (.cells L e' (0, 0))) (he : e ≠ e') : v.ownBlock = none ∨ v.ownBlock ≠ some g := by
  rcases h.2 with ⟨rfl, _⟩ | ⟨g', cap, cur, rfl, _, hh, _⟩
  · left; rfl
  · right
    intro e1
    simp only [Value.ownBlock, Option.some.injEq] at e1
    subst e1
    rw [hg] at hh
    simp at hh
    exact he hh.2.symm
theorem own_ne_base {w : World} {b n sz : Nat} {e : TypeId} {v : Value} {xs : List Value} {g : Nat} (h : w.ownsRow b e sz v n xs) (hg : g < b) : v.ownBlock = none ∨ v.ownBlock ≠ some g := by
  cases hv : v.ownBlock with
  | none => exact .inl rfl
  | some k =>
    right
    intro e1
    have := (h.lt k hv).1
    simp only [Option.some.injEq] at e1
    omega
/-- the first k records of some stand in vs, their data owned -/
def Kept (w : World) (base : Nat) (vs : List Value) (rs : List RecC) (k : Nat) : Prop :=
  ∀ j (h : j < rs.length), j < k → vs[j * 2]? = some (.string rs[j].id) ∧ ∃ A c, vs[j * 2 + 1]? = some (.slice A rs[j].data.length c) ∧ w.ownsRow base 47 5 (.slice A rs[j].data.length c) rs[j].data.length (cv rs[j].data)
theorem Kept.grown {w w' : World} {base g : Nat} {vs : List Value} {rs : List RecC} {k : Nat} {L : Array Value} (h : Kept w base vs rs k) (hg : w.heap[g]? = some (.cells L 28 (0, 0))) (hb : w.grownBy w' (some g)) : Kept w' base vs rs k := fun j hj hk => by
  obtain ⟨h0, A, c, h1, h2⟩ := h j hj hk
  exact ⟨h0, A, c, h1, h2.kept hb (own_ne_cells h2 hg (by decide))⟩
theorem Kept.base {w : World} {base base' : Nat} {vs : List Value} {rs : List RecC} {k : Nat} (h : Kept w base vs rs k) (hb : base' ≤ base) : Kept w base' vs rs k := fun j hj hk => by
  obtain ⟨h0, A, c, h1, h2⟩ := h j hj hk
  exact ⟨h0, A, c, h1, own_base h2 hb⟩
theorem Kept.kept {w w' : World} {base b : Nat} {vs : List Value} {rs : List RecC} {k : Nat} (h : Kept w base vs rs k) (hb : w.grownBy w' (some b)) (hlt : b < base) : Kept w' base vs rs k := fun j hj hk => by
  obtain ⟨h0, A, c, h1, h2⟩ := h j hj hk
  exact ⟨h0, A, c, h1, h2.kept hb (own_ne_base h2 hlt)⟩
theorem Kept.add {w : World} {base : Nat} {vs : List Value} {rs : List RecC} {k : Nat} (h : Kept w base vs rs k) (hk : k < rs.length) (hl : k * 2 + 1 < vs.length) {A : Option Addr} {c : Nat} (ho : w.ownsRow base 47 5 (.slice A rs[k].data.length c) rs[k].data.length (cv rs[k].data)) :
    Kept w base ((vs.set (k * 2) (.string rs[k].id)).set (k * 2 + 1) (.slice A rs[k].data.length c)) rs (k + 1) := by
  intro j hj hjk
  by_cases e : j = k
  · subst e
    refine ⟨?_, A, c, ?_, ho⟩
    · rw [List.getElem?_set, if_neg (by omega), List.getElem?_set, if_pos rfl, if_pos (by omega)]
    · rw [List.getElem?_set, if_pos rfl, if_pos (by simp; omega)]
  · obtain ⟨h0, A', c', h1, h2⟩ := h j hj (by omega)
    refine ⟨?_, A', c', ?_, h2⟩
    · rw [List.getElem?_set, if_neg (by omega), List.getElem?_set, if_neg (by omega)]; exact h0
    · rw [List.getElem?_set, if_neg (by omega), List.getElem?_set, if_neg (by omega)]; exact h1
/-- what a table in new memory is -/
structure NewTab (w : World) (base : Nat) (t : TabC) (Au : Option Addr) (cu g c : Nat) : Prop where
  us : w.ownsRow base 9 1 (.slice Au t.us.length cu) t.us.length (sv t.us)
  rows : ∃ vs : List Value, w.heap[g]? = some (.cells vs.toArray 28 (0, 0)) ∧ vs.length = c * 2 ∧ Kept w base vs t.rows t.rows.length
  ge : base ≤ g
  cap : t.rows.length ≤ c
def TwinT (t : TabC) (w : World) (e : Ending) (w' : World) : Prop := ∃ Au cu g, e = .returned (.agg #[.string t.name, .int .i64 t.most, .slice Au t.us.length cu, .slice (some ⟨g, 0, none⟩) t.rows.length t.rows.length]) ∧ NewTab w' w.heap.size t Au cu g t.rows.length ∧ Below w.heap.size w w'
set_option maxRecDepth 100000 in
set_option maxHeartbeats 8000000 in
theorem twin_tab (t : TabC) (Au : Option Addr) (cu : Nat) (Ar : Option Addr) (cr : Nat) (w : World) {B : Nat} (h : TabIn w B t Au Ar) :
    Calls Tryz.prog 20 #[.agg #[.string t.name, .int .i64 t.most, .slice Au t.us.length cu, .slice Ar t.rows.length cr]] w fun e w' => TwinT t w e w' := by
  obtain ⟨i0, hi, hz0, hz1, hz2⟩ := info_parts info_rec
  obtain ⟨n, hn⟩ : ∃ n, t.rows.length = n := ⟨_, rfl⟩
  obtain ⟨m, hm⟩ : ∃ m, t.us.length = m := ⟨_, rfl⟩
  have hrl := h.rl
  obtain ⟨X2, hX2⟩ : ∃ X2, X2 = ((w.alloc (.cells #[.string t.name, .int .i64 t.most, .slice Au m cu, .slice Ar n cr] 25)).alloc (.cells #[.string ⟨#[]⟩, .int .i64 0, .slice none 0 0, .slice none 0 0] 25)).alloc (.cells #[.string t.name, .int .i64 t.most, .slice Au m cu, .slice Ar n cr] 25) := ⟨_, rfl⟩
  have z2 : X2.heap.size = w.heap.size + 1 + 1 + 1 := by rw [hX2]; simp
  have b02 : Below w.heap.size w X2 := by rw [hX2]; exact (((Below.refl _ _).alloc (Nat.le_refl _) _).alloc (by simp) _).alloc (by simp; omega) _
  have f0 : Four X2 w.heap.size (.string t.name) (.int .i64 t.most) (.slice Au m cu) (.slice Ar n cr) := by
    rw [hX2]
    exact ((Four.new w _ _ _ _ _).grown (World.grownBy_alloc _ _ none) (by simp)).grown (World.grownBy_alloc _ _ none) (by simp)
  have f1 : Four X2 (w.heap.size + 1) (.string ⟨#[]⟩) (.int .i64 0) (.slice none 0 0) (.slice none 0 0) := by
    have g := (Four.new (w.alloc (.cells #[.string t.name, .int .i64 t.most, .slice Au m cu, .slice Ar n cr] 25)) (.string ⟨#[]⟩) (.int .i64 0) (.slice none 0 0) (.slice none 0 0) 25).grown (World.grownBy_alloc _ (.cells #[.string t.name, .int .i64 t.most, .slice Au m cu, .slice Ar n cr] 25) none) (by simp)
    rw [hX2]
    simpa using g
  have f2 : Four X2 (w.heap.size + 1 + 1) (.string t.name) (.int .i64 t.most) (.slice Au m cu) (.slice Ar n cr) := by
    have g := Four.new ((w.alloc (.cells #[.string t.name, .int .i64 t.most, .slice Au m cu, .slice Ar n cr] 25)).alloc (.cells #[.string ⟨#[]⟩, .int .i64 0, .slice none 0 0, .slice none 0 0] 25)) (.string t.name) (.int .i64 t.most) (.slice Au m cu) (.slice Ar n cr) 25
    rw [hX2]
    simpa using g
  have cl := clone_strs Au cu t.us X2 (h.us.thru b02 h.le) (Nat.le_trans h.le b02.size) h.ul
  rw [hm] at cl
  unfold TwinT
  have H := Lib.hid (And.intro h (And.intro hn hm))
  rw [hn] at hrl
  have HB := Lib.hid b02
  have HF0 := Lib.hid f0
  have HF1 := Lib.hid f1
  have HF2 := Lib.hid f2
  rw [hn, hm]
  clear h hn hm b02 f0 f1 f2
  subst hX2
  go_enter Tryz.func20, Tryz.ntmps20
  go_wp2_with fail
  refine cl.mono ?_
  rintro e u1 ⟨vu, rfl, hou, hbu⟩
  clear cl
  have hbs := hbu.size
  have g0 := HF0.out.below hbu (by omega)
  have g1 := HF1.out.below hbu (by omega)
  have g2 := HF2.out.below hbu (by omega)
  obtain ⟨Au', cu', rfl, _, _⟩ := own_slice hou
  have hux : w.heap.size ≤ (u1.setCell ⟨w.heap.size + 1 + 1, 2, none⟩ (.slice Au' m cu')).heap.size := by simp; omega
  have q0 := g0.setOther (b' := w.heap.size + 1 + 1) (i := 2) (by omega) (.slice Au' m cu')
  have q1 := g1.setOther (b' := w.heap.size + 1 + 1) (i := 2) (by omega) (.slice Au' m cu')
  have q2 := g2.set2 (.slice Au' m cu')
  have Q0 := Lib.hid q0
  have Q1 := Lib.hid q1
  have Q2 := Lib.hid q2
  have hbw : Below w.heap.size w u1 := HB.out.trans (hbu.mono HB.out.size)
  have hou' := own_base (base' := w.heap.size + 1 + 1 + 1) hou (by omega)
  have hou2 := hou'.kept (grown_set u1 (w.heap.size + 1 + 1) 2 (.slice Au' m cu')) (by
    rcases Au' with _ | a
    · left; rfl
    · right
      intro e
      have h1 := (hou.lt a.block rfl).1
      simp only [Value.ownBlock, Option.some.injEq] at e
      omega)
  have HOU := Lib.hid hou2
  have HOU0 := Lib.hid (own_base (base' := w.heap.size + 1 + 1 + 1) hou (by omega))
  have HBW := Lib.hid hbw
  have zu : w.heap.size + 1 + 1 + 1 ≤ u1.heap.size := by omega
  obtain ⟨a0, a1, a2, a3, af⟩ := g0
  obtain ⟨d0, d1, d2, d3, df⟩ := g2
  have df2 := df 2
  clear g1 hou hou' hou2 af df q0 q1 q2 a0 a1 a2 d0 d1 d3 hbw z2 hbs
  go_wp2_with (at_make; refine wpList_make_full _ (by rfl) _ _ _ (by rfl) w.heap.size 28 i0 (.agg #[.string ⟨#[]⟩, .slice none 0 0]) 2 Tryz.underlying23 hi hz0 hz1 .i64 .i64 _ _ n (by rfl) (by rfl) rfl rfl (by rw [hz2]; omega) (by unfold maxLen; omega) hux ?_; intro w1 ho1 hg1; have y0 := Q0.out.grown hg1 (by simp); have y2 := Q2.out.grown hg1 (by simp); obtain ⟨_, _, _, y03, _⟩ := y0; obtain ⟨_, _, _, y23, yf⟩ := y2; have yf3 := yf 3; clear yf)
  clear y03 y23 yf3
  obtain ⟨L, hL1, hL2⟩ := own_made ho1
  simp only [World.size_setCell] at hL1
  have P0 := (Q0.out.grown hg1 (by simp)).setOther (b' := w.heap.size + 1 + 1) (i := 3) (by omega) (.slice (some ⟨u1.heap.size, 0, none⟩) n n)
  have P1 := (Q1.out.grown hg1 (by simp)).setOther (b' := w.heap.size + 1 + 1) (i := 3) (by omega) (.slice (some ⟨u1.heap.size, 0, none⟩) n n)
  have P2 := (Q2.out.grown hg1 (by simp)).set3 (.slice (some ⟨u1.heap.size, 0, none⟩) n n)
  have PU := (HOU.out.kept hg1 (Classical.em _)).kept (grown_set w1 (w.heap.size + 1 + 1) 3 (.slice (some ⟨u1.heap.size, 0, none⟩) n n)) (by
    rcases Au' with _ | a
    · left; rfl
    · right
      intro e
      have h1 := (HOU0.out.lt a.block rfl).1
      simp only [Value.ownBlock, Option.some.injEq] at e
      omega)
  have PL : (w1.setCell ⟨w.heap.size + 1 + 1, 3, none⟩ (.slice (some ⟨u1.heap.size, 0, none⟩) n n)).heap[u1.heap.size]? = some (.cells L.toArray 28 (0, 0)) :=
    ((grown_set w1 (w.heap.size + 1 + 1) 3 (.slice (some ⟨u1.heap.size, 0, none⟩) n n)).block _ (Array.getElem?_eq_some_iff.1 hL1).1 (by simp; omega)).trans hL1
  have PB : Below w.heap.size w (w1.setCell ⟨w.heap.size + 1 + 1, 3, none⟩ (.slice (some ⟨u1.heap.size, 0, none⟩) n n)) :=
    (((HBW.out.setCell (by show w.heap.size ≤ w.heap.size + 1 + 1; omega) (.slice Au' m cu'))).grown hg1 hux (fun k hk => by cases hk)).setCell (by show w.heap.size ≤ w.heap.size + 1 + 1; omega) _
  obtain ⟨WL, hWL⟩ : ∃ WL, WL = w1.setCell ⟨w.heap.size + 1 + 1, 3, none⟩ (.slice (some ⟨u1.heap.size, 0, none⟩) n n) := ⟨_, rfl⟩
  rw [← hWL] at P0 P1 P2 PU PL PB
  have KP := Lib.hid (And.intro P0 (And.intro P1 (And.intro P2 (And.intro PU PB))))
  have KL := Lib.hid PL
  have KW := Lib.hid hWL
  clear P0 P1 P2 PU PB PL a3 d2 df2 hL1 ho1 hg1 Q0 Q1 Q2 HOU
  go_loopw [19] (fun vi wr => ∃ (k : Nat) (vs : List Value), k ≤ n ∧ vi = .int .i64 k ∧ vs.length = n * 2 ∧ wr.heap[u1.heap.size]? = some (.cells vs.toArray 28 (0, 0)) ∧ Kept wr (w.heap.size + 1 + 1 + 1) vs t.rows k ∧ WL.grownBy wr (some u1.heap.size)) (fun vi _ => n - (intOf vi).toNat)
  case atStart => exact ⟨0, L, Nat.zero_le _, rfl, hL2, by rw [← KW.out]; exact KL.out, fun j _ h => absurd h (by omega), by rw [KW.out]; exact ⟨rfl, rfl, rfl, Nat.le_refl _, fun _ _ _ => rfl⟩⟩
  case round =>
    obtain ⟨k, vs, hk, rfl, hvl, hhp, hkp, hgr⟩ := hrel
    obtain ⟨P0, P1, P2, PU, PB⟩ := KP.out
    obtain ⟨h, hn, hm⟩ := H.out
    have hbr : Below w.heap.size w wr := PB.grown hgr PB.size (fun k hk => by cases hk; omega)
    have hbs := hbr.size
    have e0 := P0.grown hgr (by simp; omega)
    have e1 := P1.grown hgr (by simp; omega)
    have e2 := P2.grown hgr (by simp; omega)
    by_cases hlt : k < n
    · have hkr : k < t.rows.length := by omega
      obtain ⟨b, off, A', c', hA, hbl, k0, k1, hri⟩ := (h.rows.thru hbr h.le).at' hkr
      subst hA
      have hwr := h.wf _ (List.getElem_mem hkr)
      have hkI : (k : Int) < n := by omega
      have hle := h.le
      obtain ⟨c20, c21, c22, c23, c2f⟩ := e2
      obtain ⟨x, hxk⟩ : ∃ x, t.rows[k] = x := ⟨_, rfl⟩
      rw [hxk] at k0 k1 hri hwr
      have hX : Below wr.heap.size wr (wr.alloc (.cells #[.string x.id, .slice A' x.data.length c'] 28)) := (Below.refl _ _).alloc (Nat.le_refl _) _
      have hug : u1.heap.size < wr.heap.size := (Array.getElem?_eq_some_iff.1 hhp).1
      have hzo : w.heap.size + 1 + 1 + 1 ≤ wr.heap.size := by omega
      obtain ⟨wX, hwX⟩ : ∃ wX, wX = wr.alloc (.cells #[.string x.id, .slice A' x.data.length c'] 28) := ⟨_, rfl⟩
      rw [← hwX] at hX
      have hzX : wX.heap.size = wr.heap.size + 1 := by rw [hwX]; simp
      have htw := fun W (q : Below wX.heap.size wX W) => (twin_rec x A' c' W (hri.rd.thru (hX.trans (q.mono hX.size)) (Nat.le_trans hle hbs)) (Nat.le_trans (Nat.le_trans hle hbs) (Nat.le_trans hX.size q.size)) hwr.len).mono
        (R' := fun e w' => ∃ A5 c5, e = .returned (.agg #[.string x.id, .slice A5 x.data.length c5]) ∧ w'.ownsRow (w.heap.size + 1 + 1 + 1) 47 5 (.slice A5 x.data.length c5) x.data.length (cv x.data) ∧ Below wX.heap.size wX w') fun e w' h => by
          obtain ⟨A5, c5, e1, o1, b1⟩ := h
          exact ⟨A5, c5, e1, own_base o1 (Nat.le_trans hzo (Nat.le_trans hX.size q.size)), q.trans (b1.mono q.size)⟩
      have zo : w.heap.size + 1 + 1 < wr.heap.size := by omega
      have HK : ∀ W, Below wX.heap.size wX W → W.cell? ⟨w.heap.size + 1 + 1, 3, none⟩ = some (.slice (some ⟨u1.heap.size, 0, none⟩) n n) ∧ W.cell? ⟨wr.heap.size, 0, none⟩ = some (.string x.id) ∧ W.cell? ⟨wr.heap.size, 1, none⟩ = some (.slice A' x.data.length c') := fun W q => by
        have q' := q
        rw [hwX] at q'
        exact ⟨((hX.trans (q.mono hX.size)).cell (p := ⟨w.heap.size + 1 + 1, 3, none⟩) zo).trans c23, box_keep q' 0 (by simp), box_keep q' 1 (by simp)⟩
      have HG : ∀ W, Below wX.heap.size wX W → W.heap[u1.heap.size]? = some (.cells vs.toArray 28 (0, 0)) := fun W q => ((hX.trans (q.mono hX.size)).block _ hug).trans hhp
      have HT : ∀ W, Below wX.heap.size wX W → (∃ a, W.cell? ⟨u1.heap.size, k * 2, none⟩ = some a) ∧ (∃ a, W.cell? ⟨u1.heap.size, k * 2 + 1, none⟩ = some a) ∧ W.frozen? ⟨u1.heap.size, k * 2, none⟩ = false ∧ W.frozen? ⟨u1.heap.size, k * 2 + 1, none⟩ = false := fun W q => by
        have hh := HG W q
        refine ⟨⟨vs[k * 2]'(by omega), ?_⟩, ⟨vs[k * 2 + 1]'(by omega), ?_⟩, by simp [World.frozen?, hh], by simp [World.frozen?, hh]⟩
        · rw [cell_of_row W u1.heap.size (k * 2) _ _ (0, 0) hh]; simp [show k * 2 < vs.length by omega]
        · rw [cell_of_row W u1.heap.size (k * 2 + 1) _ _ (0, 0) hh]; simp [show k * 2 + 1 < vs.length by omega]
      have HS : ∀ (W : World) (a b : Value), (W.cell? ⟨w.heap.size + 1 + 1, 3, none⟩ = some (.slice (some ⟨u1.heap.size, 0, none⟩) n n) ∧ W.cell? ⟨wr.heap.size, 0, none⟩ = some (.string x.id) ∧ W.cell? ⟨wr.heap.size, 1, none⟩ = some (.slice A' x.data.length c')) →
          ((W.setCell ⟨u1.heap.size, k * 2, none⟩ a).setCell ⟨u1.heap.size, k * 2 + 1, none⟩ b).cell? ⟨w.heap.size + 1 + 1, 3, none⟩ = some (.slice (some ⟨u1.heap.size, 0, none⟩) n n) ∧ ((W.setCell ⟨u1.heap.size, k * 2, none⟩ a).setCell ⟨u1.heap.size, k * 2 + 1, none⟩ b).cell? ⟨wr.heap.size, 0, none⟩ = some (.string x.id) ∧ ((W.setCell ⟨u1.heap.size, k * 2, none⟩ a).setCell ⟨u1.heap.size, k * 2 + 1, none⟩ b).cell? ⟨wr.heap.size, 1, none⟩ = some (.slice A' x.data.length c') := fun W a b hh => by
        have g := grown_trans (grown_set W u1.heap.size (k * 2) a) (grown_set _ u1.heap.size (k * 2 + 1) b)
        exact ⟨g.cell hh.1 (by simp; omega), g.cell hh.2.1 (by simp; omega), g.cell hh.2.2 (by simp; omega)⟩
      have KS := Lib.hid HS
      clear HS
      have KK := Lib.hid HK
      have KG := Lib.hid HG
      have KT := Lib.hid HT
      have KTW := Lib.hid htw
      have KX := Lib.hid hX
      have H2 := Lib.hid (And.intro hxk (And.intro hvl (And.intro hhp (And.intro hkp hgr))))
      have h23 := c23
      clear P0 P1 P2 PU PB h hn hm e0 e1 c2f hri hwr hxk hvl hhp hkp hgr htw HK HG HT hX c20 c21 c22 hzX
      subst hwX
      go_wp2
      go_region_held3 (fun W => W.cell? ⟨w.heap.size + 1 + 1, 3, none⟩ = some (.slice (some ⟨u1.heap.size, 0, none⟩) n n) ∧ W.cell? ⟨wr.heap.size, 0, none⟩ = some (.string x.id) ∧ W.cell? ⟨wr.heap.size, 1, none⟩ = some (.slice A' x.data.length c'))
        (first | exact KS.out _ _ _ (by assumption) | exact KK.out _ (by repeat (first | assumption | exact Below.refl _ _ | refine Below.drew ?_)))
        ((go_at_call 25; (with_reducible refine (KTW.out _ ?_).mono ?_); (repeat (first | assumption | exact Below.refl _ _ | refine Below.drew ?_)); rintro e w5 ⟨A5, c5, rfl, ho5, hb5⟩; obtain ⟨⟨s0, hs0⟩, ⟨s1, hs1⟩, fs0, fs1⟩ := KT.out w5 hb5))
      obtain ⟨hxk, hvl, hhp, hkp, hgr⟩ := H2.out
      have hkr : k < t.rows.length := by have := H.out.2.1; omega
      have hg5 := KG.out w5 hb5
      have s1c := set_cells hg5 (k * 2) (.string x.id)
      have s2c := set_cells s1c (k * 2 + 1) (.slice A5 x.data.length c5)
      have gss := grown_trans (grown_set w5 u1.heap.size (k * 2) (.string x.id)) (grown_set _ u1.heap.size (k * 2 + 1) (.slice A5 x.data.length c5))
      have gall := grown_trans (of_below (bE := some u1.heap.size) (KX.out.trans (hb5.mono KX.out.size))) gss
      have o2 := ho5.kept gss (own_ne_cells ho5 hg5 (by decide))
      have kN := (hkp.grown hhp gall).add hkr (by omega) (A := A5) (c := c5) (by rw [hxk]; exact o2)
      rw [hxk] at kN
      have gN := grown_trans hgr gall
      have HN := Lib.hid (And.intro hvl (And.intro s2c (And.intro kN gN)))
      clear hxk hvl hhp hkp hgr hkr hg5 s1c s2c gss gall o2 kN gN ho5 hs0 hs1 fs0 fs1 h23 k0 k1
      go_wp2
      go_roundw
      case rel =>
        obtain ⟨hvl, s2c, kN, gN⟩ := HN.out
        exact ⟨k + 1, _, hlt, by go_num, by simp [hvl], s2c, kN, gN⟩
      case measure => simp [intOf]; omega
    · obtain rfl : n = k := by omega
      have hltd : decide ((n : Int) < n) = false := by simp
      have uW := (PU.kept hgr (own_ne_cells PU KL.out (by decide)))
      have HW := Lib.hid (And.intro hkp (And.intro hhp (And.intro hvl (And.intro uW (And.intro hn hm)))))
      have E1 := Lib.hid e1
      obtain ⟨c20, c21, c22, c23, _⟩ := e2
      obtain ⟨c10, c11, c12, c13, c1f⟩ := e1
      have c1f0 := c1f 0
      have c1f1 := c1f 1
      have c1f2 := c1f 2
      have c1f3 := c1f 3
      clear P0 P1 P2 PU PB h hn hm e0 c1f hkp hhp hvl uW hgr
      go_wp2
      have z := (((E1.out.set0 (.string t.name)).set1 (.int .i64 t.most)).set2 (.slice Au' m cu')).set3 (.slice (some ⟨u1.heap.size, 0, none⟩) n n)
      obtain ⟨hkp, hhp, hvl, uW, hn, hm⟩ := HW.out
      have gz := grown_trans (grown_trans (grown_trans (grown_set wr (w.heap.size + 1) 0 (.string t.name)) (grown_set _ (w.heap.size + 1) 1 (.int .i64 t.most))) (grown_set _ (w.heap.size + 1) 2 (.slice Au' m cu'))) (grown_set _ (w.heap.size + 1) 3 (.slice (some ⟨u1.heap.size, 0, none⟩) n n))
      refine bodyPost_ret (v := .agg #[.string t.name, .int .i64 t.most, .slice Au' m cu', .slice (some ⟨u1.heap.size, 0, none⟩) n n]) ?_ rfl ⟨_, _, _, rfl, ⟨?_, ⟨vs, ?_, hvl, ?_⟩, by omega, by omega⟩, ?_⟩
      · rw [results_cell1 rfl]
        exact load_tab1 _ _ z
      · rw [hm]
        exact own_base (uW.kept gz (own_ne_base uW (by omega))) (by omega)
      · exact (gz.block _ (Array.getElem?_eq_some_iff.1 hhp).1 (by simp; omega)).trans hhp
      · rw [hn]
        exact (hkp.kept gz (by omega)).base (by omega)
      · exact hbr.grown gz hbs (fun k hk => by cases hk; omega)
end
end Go.Proofs.YtcgioepbooafcaaGreatDoor
