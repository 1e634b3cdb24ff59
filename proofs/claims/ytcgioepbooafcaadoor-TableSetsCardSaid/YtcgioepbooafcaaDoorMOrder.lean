/- What the laws of tables are handed; what a table that is not great is. Conditions: none. The law TableOrder: it answers true. Conditions: Go's two tables of utf8. -/
import Derived.Test.YtcgioepbooafcaaDoorTAlive
namespace Go.Proofs.YtcgioepbooafcaaDoor
section
open Go.RowKit
structure InR (w : World) (r : RecC) (A : Option Addr) (c : Nat) : Prop where
  rd : RecIn w w.heap.size r.data A c
  id : r.id.size ≤ maxLen
  wf : ∀ c ∈ r.data, CelW maxLen c
structure InT (w : World) (t : TabC) (Au Ar : Option Addr) : Prop where
  us : Rd w w.heap.size Au (sv t.us)
  rows : Recs w w.heap.size Ar t.rows
  ul : t.us.length ≤ maxLen
  rl : t.rows.length ≤ maxLen
  uz : ∀ s ∈ t.us, s.size ≤ maxLen
  wf : ∀ r ∈ t.rows, r.id.size ≤ maxLen ∧ ∀ c ∈ r.data, CelW maxLen c
theorem greatR_not {r : RecC} (h : greatR r = false) : r.id.size ≤ 300 ∧ r.data.length ≤ 60 := by
  unfold greatR at h
  simp only [Bool.or_eq_false_iff, decide_eq_false_iff_not] at h
  exact ⟨by omega, (greatC_not h.2).1⟩
theorem InR.recW {w : World} {r : RecC} {A : Option Addr} {c : Nat} (h : InR w r A c) (hg : greatR r = false) : RecW r :=
  ⟨h.id, by have := (greatR_not hg).2; omega, h.wf⟩
/-- a table's sizes, at most k rows -/
structure TabK (k : Nat) (t : TabC) : Prop where
  wf : ∀ r ∈ t.rows, RecW r
  ul : t.us.length ≤ 10
  rl : t.rows.length ≤ k
  uz : ∀ s ∈ t.us, s.size ≤ maxLen
theorem TabK.tabW {k : Nat} {t : TabC} (h : TabK k t) (hk : k ≤ 900) : TabW t := ⟨h.wf, by have := h.ul; omega, by have := h.rl; omega, h.uz⟩
theorem greatT_not {t : TabC} (h : greatT t = false) : t.rows.length ≤ 12 ∧ t.us.length ≤ 10 ∧ ∀ r ∈ t.rows, greatR r = false := by
  unfold greatT great2 at h
  simp only [Bool.or_eq_false_iff, decide_eq_false_iff_not] at h
  obtain ⟨h1, _, ⟨h2, h3⟩, _⟩ := h
  refine ⟨by omega, by omega, fun r hr => ?_⟩
  rw [List.take_of_length_le (by omega), List.any_eq_false] at h1
  simpa using h1 r hr
theorem InT.tabK {w : World} {t : TabC} {Au Ar : Option Addr} (h : InT w t Au Ar) (hg : greatT t = false) : TabK 12 t := by
  obtain ⟨h1, h2, h3⟩ := greatT_not hg
  exact ⟨fun r hr => ⟨(h.wf r hr).1, by have := (greatR_not (h3 r hr)).2; omega, (h.wf r hr).2⟩, h2, h1, h.uz⟩
theorem InT.tabIn {w : World} {t : TabC} {Au Ar : Option Addr} (h : InT w t Au Ar) (hT : Tabs w) {k : Nat} (hk : TabK k t) (hkk : k ≤ 900) : TabIn w w.heap.size t Au Ar :=
  ⟨h.us, h.rows, Nat.le_refl _, hT, hk.wf, by have := hk.ul; omega, by have := hk.rl; omega⟩
theorem zeroT_K (k : Nat) : TabK k zeroT := ⟨fun r hr => (by cases hr), Nat.zero_le _, Nat.zero_le _, fun s hs => (by cases hs)⟩
theorem putT_K {k : Nat} {t : TabC} {r : RecC} (h : TabK k t) (hr : RecW r) : TabK (k + 1) (putT t r).1 := by
  unfold putT
  repeat' split
  all_goals first
    | exact zeroT_K _
    | refine ⟨fun x hx => ?_, h.ul, ?_, h.uz⟩
  · have hx' : x ∈ t.rows.take (before (idsL t.rows) r.id) ++ r :: t.rows.drop (before (idsL t.rows) r.id) := hx
    rcases List.mem_append.1 hx' with hm | hm
    · exact h.wf x (List.mem_of_mem_take hm)
    · rcases List.mem_cons.1 hm with rfl | hm
      · exact hr
      · exact h.wf x (List.mem_of_mem_drop hm)
  · show (t.rows.take (before (idsL t.rows) r.id) ++ r :: t.rows.drop (before (idsL t.rows) r.id)).length ≤ k + 1
    have := h.rl
    rw [List.length_append, List.length_take, List.length_cons, List.length_drop]
    omega
theorem setT_K {k : Nat} {t : TabC} {r : RecC} (h : TabK k t) (hr : RecW r) : TabK k (setT t r).1 := by
  unfold setT
  repeat' split
  all_goals first
    | exact zeroT_K _
    | refine ⟨fun x hx => ?_, h.ul, ?_, h.uz⟩
  · have hx' : x ∈ t.rows.set (before (idsL t.rows) r.id) r := hx
    rcases List.mem_or_eq_of_mem_set hx' with hm | rfl
    · exact h.wf x hm
    · exact hr
  · show (t.rows.set (before (idsL t.rows) r.id) r).length ≤ k
    rw [List.length_set]
    exact h.rl
theorem dropT_K {k : Nat} {t : TabC} {id : ByteArray} (h : TabK k t) : TabK k (dropT t id).1 := by
  unfold dropT
  repeat' split
  all_goals first
    | exact zeroT_K _
    | refine ⟨fun x hx => ?_, h.ul, ?_, h.uz⟩
  · have hx' : x ∈ t.rows.take (before (idsL t.rows) id) ++ t.rows.drop (before (idsL t.rows) id + 1) := hx
    rcases List.mem_append.1 hx' with hm | hm
    · exact h.wf x (List.mem_of_mem_take hm)
    · exact h.wf x (List.mem_of_mem_drop hm)
  · show (t.rows.take (before (idsL t.rows) id) ++ t.rows.drop (before (idsL t.rows) id + 1)).length ≤ k
    have := h.rl
    rw [List.length_append, List.length_take, List.length_drop]
    omega
theorem zeroR_W : RecW zeroR := recW_small (by kernel_rfl)
theorem getT_W {k : Nat} {t : TabC} {id : ByteArray} (h : TabK k t) : RecW ((getT t id).getD zeroR) := by
  unfold getT
  repeat' split
  all_goals first
    | exact zeroR_W
    | skip
  cases e : t.rows[before (idsL t.rows) id]? with
  | none => exact zeroR_W
  | some x => exact h.wf x (List.mem_of_getElem? e)
/-- the errors of the law of order -/
theorem order_law (t : TabC) (a b : RecC) :
    (if (putT t a).2 = 0 ∧ (putT (putT t a).1 b).2 = 0 then (putT t b).2 = 0 ∧ (putT (putT t b).1 a).2 = 0 ∧ (putT (putT t b).1 a).1 = (putT (putT t a).1 b).1 else ¬ ((putT t b).2 = 0 ∧ (putT (putT t b).1 a).2 = 0)) := by
  have key : ∀ a b : RecC, (putT t a).2 = 0 → (putT (putT t a).1 b).2 = 0 → (putT t b).2 = 0 ∧ (putT (putT t b).1 a).2 = 0 ∧ (putT (putT t b).1 a).1 = (putT (putT t a).1 b).1 := by
    intro a b h1 h2
    rw [putT_eq] at h1 h2
    rw [putT_eq] at h2
    have e1 : Tb.put ordC t a = ((Tb.put ordC t a).1, 0) := by rw [← h1]
    have e2 : Tb.put ordC (Tb.put ordC t a).1 b = ((Tb.put ordC (Tb.put ordC t a).1 b).1, 0) := by rw [← h2]
    obtain ⟨z, e3, e4⟩ := Tb.order_ok e1 e2
    simp only [putT_eq]
    rw [e3, e4]
    exact ⟨rfl, rfl, rfl⟩
  split
  · rename_i h
    exact key a b h.1 h.2
  · rename_i h
    intro g
    have := key b a g.1 g.2
    exact h ⟨this.1, this.2.1⟩
end
section
open Go.RowKit
/-- two cells at a block -/
def Pair2 (W : World) (b : Nat) (v0 v1 : Value) : Prop := W.cell? ⟨b, 0, none⟩ = some v0 ∧ W.cell? ⟨b, 1, none⟩ = some v1
theorem Pair2.below {W W' : World} {b : Nat} {v0 v1 : Value} (h : Pair2 W b v0 v1) {B : Nat} (hb : Below B W W') (hB : b < B) : Pair2 W' b v0 v1 :=
  ⟨(hb.cell (p := ⟨b, 0, none⟩) hB).trans h.1, (hb.cell (p := ⟨b, 1, none⟩) hB).trans h.2⟩
theorem Pair2.new (w : World) (v0 v1 : Value) (T : TypeId) : Pair2 (w.alloc (.cells #[v0, v1] T)) w.heap.size v0 v1 :=
  ⟨box_keep (Below.refl _ _) 0 (by simp), box_keep (Below.refl _ _) 1 (by simp)⟩
abbrev tabV (t : TabC) (Au : Option Addr) (cu : Nat) (Ar : Option Addr) (cr : Nat) : Array Value := #[.string t.name, .int .i64 t.most, .slice Au t.us.length cu, .slice Ar t.rows.length cr]
abbrev recV (r : RecC) (A : Option Addr) (c : Nat) : Array Value := #[.string r.id, .slice A r.data.length c]
theorem ResPost.mono {x : TabC} {E : Int} {w : World} {e : Ending} {w' : World} (h : ResPost x E w e w') : ∃ Au cu Ar cr, e = .returned (.tuple #[.agg #[.string x.name, .int .i64 x.most, .slice Au x.us.length cu, .slice Ar x.rows.length cr], .int .i64 E]) ∧ FreshT w' w.heap.size x Au Ar cu cr ∧ Below w.heap.size w w' := h
set_option maxRecDepth 100000 in
set_option maxHeartbeats 16000000 in
theorem order_any (t : TabC) (a b : RecC) (Au : Option Addr) (cu : Nat) (Ar : Option Addr) (cr : Nat) (Aa : Option Addr) (ca : Nat) (Ab : Option Addr) (cb : Nat) (w : World) (ht : InT w t Au Ar) (ha : InR w a Aa ca) (hb : InR w b Ab cb) (hT : Tabs w) :
    Calls Tryd.prog 3 #[.agg #[.string t.name, .int .i64 t.most, .slice Au t.us.length cu, .slice Ar t.rows.length cr], .agg #[.string a.id, .slice Aa a.data.length ca], .agg #[.string b.id, .slice Ab b.data.length cb]] w fun e w' => e = .returned (.bool true) ∧ Below w.heap.size w w' := by
  obtain ⟨W1, hW1⟩ : ∃ W1, W1 = ((w.alloc (.cells #[.string t.name, .int .i64 t.most, .slice Au t.us.length cu, .slice Ar t.rows.length cr] 25)).alloc (.cells #[.string a.id, .slice Aa a.data.length ca] 28)).alloc (.cells #[.string b.id, .slice Ab b.data.length cb] 28) := ⟨_, rfl⟩
  have hz : W1.heap.size = w.heap.size + 1 + 1 + 1 := by rw [hW1]; simp
  have h01 : Below w.heap.size w W1 := by rw [hW1]; exact (((Below.refl _ _).alloc (Nat.le_refl _) _).alloc (by simp) _).alloc (by simp; omega) _
  have kt : ∀ W, Below W1.heap.size W1 W → Four W w.heap.size (.string t.name) (.int .i64 t.most) (.slice Au t.us.length cu) (.slice Ar t.rows.length cr) := fun W q => by
    refine Four.below (W := W1) ?_ q (by omega)
    rw [hW1]
    exact ((Four.new w _ _ _ _ _).grown (World.grownBy_alloc _ _ none) (by simp)).grown (World.grownBy_alloc _ _ none) (by simp)
  have ka : ∀ W, Below W1.heap.size W1 W → Pair2 W (w.heap.size + 1) (.string a.id) (.slice Aa a.data.length ca) := fun W q => by
    refine Pair2.below (W := W1) ?_ q (by omega)
    have g := (Pair2.new (w.alloc (.cells #[.string t.name, .int .i64 t.most, .slice Au t.us.length cu, .slice Ar t.rows.length cr] 25)) (.string a.id) (.slice Aa a.data.length ca) 28).below ((Below.refl _ _).alloc (Nat.le_refl _) (.cells #[.string b.id, .slice Ab b.data.length cb] 28)) (by simp)
    rw [hW1]
    simpa using g
  have kb : ∀ W, Below W1.heap.size W1 W → Pair2 W (w.heap.size + 1 + 1) (.string b.id) (.slice Ab b.data.length cb) := fun W q => by
    refine Pair2.below (W := W1) ?_ q (by omega)
    have g := Pair2.new ((w.alloc (.cells #[.string t.name, .int .i64 t.most, .slice Au t.us.length cu, .slice Ar t.rows.length cr] 25)).alloc (.cells #[.string a.id, .slice Aa a.data.length ca] 28)) (.string b.id) (.slice Ab b.data.length cb) 28
    rw [hW1]
    simpa using g
  have dW : ∀ W, Below W1.heap.size W1 W → Below w.heap.size w W := fun W q => h01.trans (q.mono h01.size)
  have cl := alive_any W1 (hT.below h01)
  have cg := fun W (q : Below W1.heap.size W1 W) => great_t t Au cu Ar cr W (ht.us.thru (dW W q) (Nat.le_refl _)) (ht.rows.thru (dW W q) (Nat.le_refl _)) (dW W q).size ht.ul ht.rl
  have cga := fun W (q : Below W1.heap.size W1 W) => great_rec a Aa ca W (ha.rd.rd.thru (dW W q) (Nat.le_refl _)) (dW W q).size (Nat.le_trans ha.rd.cap ha.rd.cm)
  have cgb := fun W (q : Below W1.heap.size W1 W) => great_rec b Ab cb W (hb.rd.rd.thru (dW W q) (Nat.le_refl _)) (dW W q).size (Nat.le_trans hb.rd.cap hb.rd.cm)
  have KT := Lib.hid kt
  have KA := Lib.hid ka
  have KB := Lib.hid kb
  have DW := Lib.hid dW
  have HI := Lib.hid (And.intro ht (And.intro ha (And.intro hb hT)))
  obtain ⟨GT, hGT⟩ : ∃ G, greatT t = G := ⟨_, rfl⟩
  obtain ⟨GA, hGA⟩ : ∃ G, greatR a = G := ⟨_, rfl⟩
  obtain ⟨GB, hGB⟩ : ∃ G, greatR b = G := ⟨_, rfl⟩
  simp only [hGT] at cg
  simp only [hGA] at cga
  simp only [hGB] at cgb
  have CG := Lib.hid cg
  have CGA := Lib.hid cga
  have CGB := Lib.hid cgb
  have HG := Lib.hid (And.intro hGT (And.intro hGA hGB))
  clear ht ha hb hT kt ka kb dW cg cga cgb hGT hGA hGB hz
  have DB := Lib.hid h01
  clear h01
  subst hW1
  go_enter Tryd.func3, Tryd.ntmps3
  go_wp2_with fail
  refine cl.mono ?_
  rintro e w1 ⟨rfl, q1⟩
  clear cl
  obtain ⟨t10, t11, t12, t13, _⟩ := KT.out w1 q1
  have c := CG.out w1 q1
  go_wp2_with fail
  refine c.mono ?_
  rintro e w2 ⟨rfl, hb2⟩
  clear c t10 t11 t12 t13
  have q2 := q1.trans (hb2.mono q1.size)
  cases GT with
  | true =>
    go_wp2
    go_ret
    exact ⟨rfl, DW.out _ q2⟩
  | false =>
  obtain ⟨a20, a21⟩ := KA.out w2 q2
  have c := CGA.out w2 q2
  go_wp2_with fail
  refine c.mono ?_
  rintro e w3 ⟨rfl, hb3⟩
  clear c a20 a21
  have q3 := q2.trans (hb3.mono q2.size)
  cases GA with
  | true =>
    go_wp2
    go_ret
    exact ⟨rfl, DW.out _ q3⟩
  | false =>
  obtain ⟨b30, b31⟩ := KB.out w3 q3
  have c := CGB.out w3 q3
  go_wp2_with fail
  refine c.mono ?_
  rintro e w4 ⟨rfl, hb4⟩
  clear c b30 b31
  have q4 := q3.trans (hb4.mono q3.size)
  cases GB with
  | true =>
    go_wp2
    go_ret
    exact ⟨rfl, DW.out _ q4⟩
  | false =>
  obtain ⟨hGT, hGA, hGB⟩ := HG.out
  obtain ⟨ht, ha, hb, hT⟩ := HI.out
  have hK := ht.tabK hGT
  have wa := ha.recW hGA
  have wb := hb.recW hGB
  have kX := putT_K hK wa
  have kZ := putT_K hK wb
  have kY := putT_K kX wb
  have kV := putT_K kZ wa
  have law := order_law t a b
  have dT : ∀ W, Below w.heap.size w W → Tabs W := fun W q => hT.below q
  have p1 := fun W (q : Below w.heap.size w W) => put_t t a Au cu Ar cr Aa ca W ((ht.tabIn hT hK (by omega)).below q) (hK.tabW (by omega)) (ha.rd.thru q (Nat.le_refl _)) q.size wa
  have p3 := fun W (q : Below w.heap.size w W) => put_t t b Au cu Ar cr Ab cb W ((ht.tabIn hT hK (by omega)).below q) (hK.tabW (by omega)) (hb.rd.thru q (Nat.le_refl _)) q.size wb
  have p2 := fun (W5 W : World) (base : Nat) (Au5 : Option Addr) (cu5 : Nat) (Ar5 : Option Addr) (cr5 : Nat) (f : FreshT W5 base (putT t a).1 Au5 Ar5 cu5 cr5) (q5 : Below w.heap.size w W5) (q : Below W5.heap.size W5 W) => put_t (putT t a).1 b Au5 cu5 Ar5 cr5 Ab cb W ((f.tabIn (dT W5 q5) (kX.tabW (by omega))).below q) (kX.tabW (by omega)) (hb.rd.thru (q5.trans (q.mono q5.size)) (Nat.le_refl _)) (q5.trans (q.mono q5.size)).size wb
  have p4 := fun (W5 W : World) (base : Nat) (Au5 : Option Addr) (cu5 : Nat) (Ar5 : Option Addr) (cr5 : Nat) (f : FreshT W5 base (putT t b).1 Au5 Ar5 cu5 cr5) (q5 : Below w.heap.size w W5) (q : Below W5.heap.size W5 W) => put_t (putT t b).1 a Au5 cu5 Ar5 cr5 Aa ca W ((f.tabIn (dT W5 q5) (kZ.tabW (by omega))).below q) (kZ.tabW (by omega)) (ha.rd.thru (q5.trans (q.mono q5.size)) (Nat.le_refl _)) (q5.trans (q.mono q5.size)).size wa
  have p5 := fun (W6 W8 W : World) (base base' : Nat) (Au6 : Option Addr) (cu6 : Nat) (Ar6 : Option Addr) (cr6 : Nat) (Au8 : Option Addr) (cu8 : Nat) (Ar8 : Option Addr) (cr8 : Nat) (f : FreshT W6 base (putT (putT t a).1 b).1 Au6 Ar6 cu6 cr6) (f' : FreshT W8 base' (putT (putT t b).1 a).1 Au8 Ar8 cu8 cr8) (q6 : Below w.heap.size w W6) (q8 : Below w.heap.size w W8) (r6 : Below W6.heap.size W6 W) (r8 : Below W8.heap.size W8 W) => same_t (putT (putT t a).1 b).1 (putT (putT t b).1 a).1 Au6 cu6 Ar6 cr6 Au8 cu8 Ar8 cr8 W ((f.tabIn (dT W6 q6) (kY.tabW (by omega))).below r6) ((f'.tabIn (dT W8 q8) (kV.tabW (by omega))).below r8)
  obtain ⟨x, hx⟩ : ∃ x, (putT t a).1 = x := ⟨_, rfl⟩
  obtain ⟨z, hz⟩ : ∃ x, (putT t b).1 = x := ⟨_, rfl⟩
  rw [hx, hz] at law
  simp only [hx] at p1 p2 p5
  simp only [hz] at p3 p4 p5
  obtain ⟨y, hy⟩ : ∃ y, (putT x b).1 = y := ⟨_, rfl⟩
  obtain ⟨v, hv⟩ : ∃ v, (putT z a).1 = v := ⟨_, rfl⟩
  rw [hy, hv] at law
  simp only [hy] at p2 p5
  simp only [hv] at p4 p5
  obtain ⟨e1, he1⟩ : ∃ e, (putT t a).2 = e := ⟨_, rfl⟩
  obtain ⟨e2, he2⟩ : ∃ e, (putT x b).2 = e := ⟨_, rfl⟩
  obtain ⟨e3, he3⟩ : ∃ e, (putT t b).2 = e := ⟨_, rfl⟩
  obtain ⟨e4, he4⟩ : ∃ e, (putT z a).2 = e := ⟨_, rfl⟩
  rw [he1, he2, he3, he4] at law
  simp only [he1] at p1
  simp only [he2] at p2
  simp only [he3] at p3
  simp only [he4] at p4
  unfold ResPost at p1 p2 p3 p4
  have P1 := Lib.hid p1
  have P2 := Lib.hid p2
  have P3 := Lib.hid p3
  have P4 := Lib.hid p4
  have P5 := Lib.hid p5
  have LAW := Lib.hid law
  clear p1 p2 p3 p4 p5 law hGT hGA hGB ht ha hb hT hK wa wb kX kZ kY kV dT hx hz hy hv he1 he2 he3 he4
  obtain ⟨t40, t41, t42, t43, _⟩ := KT.out w4 q4
  obtain ⟨a40, a41⟩ := KA.out w4 q4
  have c := P1.out w4 (DW.out _ q4)
  go_wp2_with fail
  refine c.mono ?_
  rintro e w5 ⟨Au5, cu5, Ar5, cr5, rfl, f5, hb5⟩
  clear c t40 t41 t42 t43 a40 a41
  have q5 := q4.trans (hb5.mono q4.size)
  have F5 := Lib.hid f5
  clear f5
  have r5 := fun (o : Obj) => (q5).alloc (Below.size q5) o
  have b50 := fun (o : Obj) => (KB.out (w5.alloc o) (r5 o)).1
  have b51 := fun (o : Obj) => (KB.out (w5.alloc o) (r5 o)).2
  have n50 := fun (v0 v1 v2 v3 : Value) (T : TypeId) => (Four.new w5 v0 v1 v2 v3 T).c0
  have n51 := fun (v0 v1 v2 v3 : Value) (T : TypeId) => (Four.new w5 v0 v1 v2 v3 T).c1
  have n52 := fun (v0 v1 v2 v3 : Value) (T : TypeId) => (Four.new w5 v0 v1 v2 v3 T).c2
  have n53 := fun (v0 v1 v2 v3 : Value) (T : TypeId) => (Four.new w5 v0 v1 v2 v3 T).c3
  have c := fun (o : Obj) => P2.out w5 (w5.alloc o) _ _ _ _ _ F5.out (DW.out _ q5) ((Below.refl _ _).alloc (Nat.le_refl _) o)
  go_wp2_with fail
  refine (c _).mono ?_
  rintro e w6 ⟨Au6, cu6, Ar6, cr6, rfl, f6, hb6⟩
  have q6 : Below w.heap.size w w6 := (DW.out _ (r5 _)).trans (hb6.mono (DW.out _ (r5 _)).size)
  have s6 := (r5 _).trans (hb6.mono (r5 _).size)
  clear c b50 b51 n50 n51 n52 n53
  have F6 := Lib.hid f6
  clear f6
  have r6 := fun (o : Obj) => (s6).alloc (Below.size s6) o
  have t60 := fun (o : Obj) => (KT.out (w6.alloc o) (r6 o)).c0
  have t61 := fun (o : Obj) => (KT.out (w6.alloc o) (r6 o)).c1
  have t62 := fun (o : Obj) => (KT.out (w6.alloc o) (r6 o)).c2
  have t63 := fun (o : Obj) => (KT.out (w6.alloc o) (r6 o)).c3
  have b60 := fun (o : Obj) => (KB.out (w6.alloc o) (r6 o)).1
  have b61 := fun (o : Obj) => (KB.out (w6.alloc o) (r6 o)).2
  have n60 := fun (v0 v1 v2 v3 : Value) (T : TypeId) => (Four.new w6 v0 v1 v2 v3 T).c0
  have n61 := fun (v0 v1 v2 v3 : Value) (T : TypeId) => (Four.new w6 v0 v1 v2 v3 T).c1
  have n62 := fun (v0 v1 v2 v3 : Value) (T : TypeId) => (Four.new w6 v0 v1 v2 v3 T).c2
  have n63 := fun (v0 v1 v2 v3 : Value) (T : TypeId) => (Four.new w6 v0 v1 v2 v3 T).c3
  have c := fun (o : Obj) => P3.out (w6.alloc o) (DW.out _ (r6 o))
  go_wp2_with fail
  refine (c _).mono ?_
  rintro e w7 ⟨Au7, cu7, Ar7, cr7, rfl, f7, hb7⟩
  have s7 := (r6 _).trans (hb7.mono (r6 _).size)
  have y7 := four_new hb7
  clear c t60 t61 t62 t63 b60 b61 n60 n61 n62 n63
  have F7 := Lib.hid f7
  clear f7
  have HY7 := Lib.hid y7
  clear y7
  have x67 : Below w6.heap.size w6 w7 := ((Below.refl _ _).alloc (Nat.le_refl _) _).trans (hb7.mono (by simp))
  have r7 := fun (o : Obj) => (s7).alloc (Below.size s7) o
  have a70 := fun (o : Obj) => (KA.out (w7.alloc o) (r7 o)).1
  have a71 := fun (o : Obj) => (KA.out (w7.alloc o) (r7 o)).2
  have n70 := fun (v0 v1 v2 v3 : Value) (T : TypeId) => (Four.new w7 v0 v1 v2 v3 T).c0
  have n71 := fun (v0 v1 v2 v3 : Value) (T : TypeId) => (Four.new w7 v0 v1 v2 v3 T).c1
  have n72 := fun (v0 v1 v2 v3 : Value) (T : TypeId) => (Four.new w7 v0 v1 v2 v3 T).c2
  have n73 := fun (v0 v1 v2 v3 : Value) (T : TypeId) => (Four.new w7 v0 v1 v2 v3 T).c3
  have c := fun (o : Obj) => P4.out w7 (w7.alloc o) _ _ _ _ _ F7.out (DW.out _ s7) ((Below.refl _ _).alloc (Nat.le_refl _) o)
  go_wp2_with fail
  refine (c _).mono ?_
  rintro e w8 ⟨Au8, cu8, Ar8, cr8, rfl, f8, hb8⟩
  have s8 := (r7 _).trans (hb8.mono (r7 _).size)
  clear c a70 a71 n70 n71 n72 n73
  have F8 := Lib.hid f8
  clear f8
  have x78 : Below w7.heap.size w7 w8 := ((Below.refl _ _).alloc (Nat.le_refl _) _).trans (hb8.mono (by simp))
  have x68 : Below w6.heap.size w6 w8 := x67.trans (x78.mono x67.size)
  have y8 := HY7.out.below x78 (World.block_lt_of_cell? _ _ HY7.out.c0)
  have y80 := fun (o : Obj) => (y8.below ((Below.refl w8.heap.size w8).alloc (Nat.le_refl _) o) (World.block_lt_of_cell? _ _ y8.c0)).c0
  have y81 := fun (o : Obj) => (y8.below ((Below.refl w8.heap.size w8).alloc (Nat.le_refl _) o) (World.block_lt_of_cell? _ _ y8.c0)).c1
  have y82 := fun (o : Obj) => (y8.below ((Below.refl w8.heap.size w8).alloc (Nat.le_refl _) o) (World.block_lt_of_cell? _ _ y8.c0)).c2
  have y83 := fun (o : Obj) => (y8.below ((Below.refl w8.heap.size w8).alloc (Nat.le_refl _) o) (World.block_lt_of_cell? _ _ y8.c0)).c3
  clear y8
  have n80 := fun (v0 v1 v2 v3 : Value) (T : TypeId) => (Four.new w8 v0 v1 v2 v3 T).c0
  have n81 := fun (v0 v1 v2 v3 : Value) (T : TypeId) => (Four.new w8 v0 v1 v2 v3 T).c1
  have n82 := fun (v0 v1 v2 v3 : Value) (T : TypeId) => (Four.new w8 v0 v1 v2 v3 T).c2
  have n83 := fun (v0 v1 v2 v3 : Value) (T : TypeId) => (Four.new w8 v0 v1 v2 v3 T).c3
  have fin := fun (o : Obj) => DW.out _ (s8.alloc s8.size o)
  have law := LAW.out
  by_cases h1 : e1 = 0
  · by_cases h2 : e2 = 0
    · rw [if_pos ⟨h1, h2⟩] at law
      obtain ⟨h3, h4, h5⟩ := law
      subst h1 h2 h3 h4 h5
      have c := fun (o : Obj) => P5.out w6 w8 (w8.alloc o) _ _ _ _ _ _ _ _ _ _ F6.out F8.out q6 (DW.out _ s8) (x68.trans ((Below.refl w8.heap.size w8).alloc (Nat.le_refl _) o |>.mono x68.size)) ((Below.refl _ _).alloc (Nat.le_refl _) o)
      simp only [(sameT_iff _ _).2 rfl] at c
      go_wp2_with fail
      refine (c _).mono ?_
      rintro e w9 ⟨rfl, hb9⟩
      clear y80 y81 y82 y83 n80 n81 n82 n83
      go_wp2
      go_ret
      exact ⟨rfl, (fin _).trans (hb9.mono (fin _).size)⟩
    · rw [if_neg (fun h => h2 h.2)] at law
      have m2 : (e2 == 0) = false := by simp [h2]
      subst h1
      by_cases h3 : e3 = 0
      · have h4 : e4 ≠ 0 := fun h4 => law ⟨h3, h4⟩
        have m4 : (e4 == 0) = false := by simp [h4]
        subst h3
        go_wp2
        go_ret
        exact ⟨ret_bool (by simp [h4]), fin _⟩
      · have m3 : (e3 == 0) = false := by simp [h3]
        go_wp2
        go_ret
        exact ⟨ret_bool (by simp), fin _⟩
  · rw [if_neg (fun h => h1 h.1)] at law
    have m1 : (e1 == 0) = false := by simp [h1]
    by_cases h3 : e3 = 0
    · have h4 : e4 ≠ 0 := fun h4 => law ⟨h3, h4⟩
      have m4 : (e4 == 0) = false := by simp [h4]
      subst h3
      go_wp2
      go_ret
      exact ⟨ret_bool (by simp [h4]), fin _⟩
    · have m3 : (e3 == 0) = false := by simp [h3]
      go_wp2
      go_ret
      exact ⟨ret_bool (by simp), fin _⟩
end
end Go.Proofs.YtcgioepbooafcaaDoor
