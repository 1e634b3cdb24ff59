/- The law TableDoes: it answers true. Conditions: Go's two tables of utf8. -/
import Derived.Test.YtcgioepbooafcaaGreatDoorMS2
import Derived.Deep.DeepCutAuto
namespace Go.Proofs.YtcgioepbooafcaaGreatDoor
open Go.RowKit
theorem four_lt {W : World} {b : Nat} {v0 v1 v2 v3 : Value} (h : Four W b v0 v1 v2 v3) : b < W.heap.size := World.block_lt_of_cell? _ _ h.c0
theorem pair_lt {W : World} {b : Nat} {v0 v1 : Value} (h : Pair2 W b v0 v1) : b < W.heap.size := World.block_lt_of_cell? _ _ h.1
theorem pair_new {w w' : World} {v0 v1 : Value} {T : TypeId} (q : Below (w.alloc (.cells #[v0, v1] T)).heap.size (w.alloc (.cells #[v0, v1] T)) w') : Pair2 w' w.heap.size v0 v1 := (Pair2.new w v0 v1 T).below q (by simp)
theorem InRec.rrec {w : World} {r : RecC} {A : Option Addr} {c : Nat} (h : InRec w r A c) (hg : greatR r = false) : RRec w w.heap.size r A c := by
  have hl := (greatR_not hg).2
  have hc : greatC r.data 60 = false := by
    unfold greatR at hg
    simp only [Bool.or_eq_false_iff] at hg
    exact hg.2
  refine ⟨⟨h.rd.rd, Nat.le_refl _, by omega, fun x hx => ?_⟩, h.rd.cap, h.rd.cm⟩
  have w1 := h.wf x hx
  have w2 := (greatC_not hc).2 x hx
  exact ⟨w1.kind, by omega, by omega, w1.num0, w1.num1, w1.many0, w1.many1⟩
theorem InT.rtab {w : World} {t : TabC} {Au Ar : Option Addr} (h : InT w t Au Ar) (hg : greatT t = false) : RTab w w.heap.size t Au Ar := by
  obtain ⟨h1, h2, h3⟩ := greatT_not hg
  refine ⟨h.us, h.rows, Nat.le_refl _, fun r hr x hx => ?_, fun r hr => by have := (greatR_not (h3 r hr)).2; omega, fun r hr => (h.wf r hr).1, by omega, by omega⟩
  have w1 := (h.wf r hr).2 x hx
  have hc : greatC r.data 60 = false := by
    have := h3 r hr
    unfold greatR at this
    simp only [Bool.or_eq_false_iff] at this
    exact this.2
  have w2 := (greatC_not hc).2 x hx
  exact ⟨w1.kind, by omega, by omega, w1.num0, w1.num1, w1.many0, w1.many1⟩
def DoesCut (w0 : World) (v : Value) (W : World) : Prop := v = .bool true ∧ Below w0.heap.size w0 W
/-- a table in new memory, read by the program -/
theorem own_tab {w W : World} {base : Nat} {x : TabC} {A : Option Addr} {c : Nat} {A' : Option Addr} {c' : Nat} (ou : w.ownsRow base 9 1 (.slice A x.us.length c) x.us.length (sv x.us)) (orr : OwnRows w base A' c' x.rows) (q : Below w.heap.size w W) (hT : Tabs W) (hw : TabW x) : TabIn W w.heap.size x A A' :=
  ⟨(rd_ofK2 ou).thru q (Nat.le_refl _), orr.recs.thru q (Nat.le_refl _), q.size, hT, hw.wf, by have := hw.ul; omega, by have := hw.rl; omega⟩
theorem Apart.belowS {W w w1 : World} {o : Obj} {top : Nat} (h : Apart (W.alloc o).heap.size top w w1) (hb : W.heap.size < w.heap.size) : Below (W.heap.size + 1) w w1 := by
  have e : (W.alloc o).heap.size = W.heap.size + 1 := by simp
  rw [e] at h
  exact h.below hb
theorem Apart.four {base top : Nat} {w w1 : World} {b : Nat} {v0 v1 v2 v3 : Value} (h : Apart base top w w1) (f : Four w b v0 v1 v2 v3) (hb : b < base ∨ top ≤ b) : Four w1 b v0 v1 v2 v3 := by
  have e := h.block b hb (four_lt f)
  exact ⟨(World.cell?_of_block (w := w) e).trans f.c0, (World.cell?_of_block (w := w) e).trans f.c1, (World.cell?_of_block (w := w) e).trans f.c2, (World.cell?_of_block (w := w) e).trans f.c3, fun i => (World.frozen?_of_block (w := w) e).trans (f.f i)⟩
theorem Apart.two {base top : Nat} {w w1 : World} {b : Nat} {v0 v1 : Value} (h : Apart base top w w1) (f : Pair2 w b v0 v1) (hb : b < base ∨ top ≤ b) : Pair2 w1 b v0 v1 := by
  have e := h.block b hb (pair_lt f)
  exact ⟨(World.cell?_of_block (w := w) e).trans f.1, (World.cell?_of_block (w := w) e).trans f.2⟩
theorem own_data {w : World} {base : Nat} {A : Option Addr} {n c : Nat} {xs : List Value} (h : w.ownsRow base 47 5 (.slice A n c) n xs) : DataAt w base w.heap.size A n := by
  rcases h.2 with ⟨h3, _⟩ | ⟨g, cap, cur, h3, hg, hh, hnc, hc, hs, ht⟩
  · simp only [Value.slice.injEq] at h3
    exact .inl h3.2.1
  · simp only [Value.slice.injEq] at h3
    obtain ⟨rfl, _, rfl⟩ := h3
    exact .inr ⟨g, cur, rfl, hg, (Array.getElem?_eq_some_iff.1 hh).1, hh, by rw [hs]; exact Nat.mul_le_mul_right _ hnc⟩
def dvOf (vs : List Value) (j : Nat) : Option Addr × Nat × Nat := match vs[j * 2 + 1]? with
  | some (.slice A n c) => (A, n, c)
  | _ => (none, 0, 0)
theorem new_shape {w : World} {base : Nat} {x : TabC} {Au : Option Addr} {cu g c : Nat} (h : NewTab w base x Au cu g c) (hw : TabW x) : ∃ dv, Shape w base w.heap.size Au x.us.length (some ⟨g, 0, none⟩) x.rows.length dv ∧ ∀ j, j < x.rows.length → (dv j).2.1 ≤ 1000000 := by
  obtain ⟨hu, ⟨vs, hg, hl, hk⟩, hge, hcap⟩ := h
  have hd : ∀ j (hj : j < x.rows.length), ∃ A c', vs[j * 2 + 1]? = some (.slice A x.rows[j].data.length c') ∧ dvOf vs j = (A, x.rows[j].data.length, c') ∧ DataAt w base w.heap.size A x.rows[j].data.length := fun j hj => by
    obtain ⟨_, A, c', h1, h2⟩ := hk j hj hj
    exact ⟨A, c', h1, by unfold dvOf; rw [h1], own_data h2⟩
  refine ⟨dvOf vs, ⟨?_, .inr ⟨g, vs.toArray, rfl, hge, (Array.getElem?_eq_some_iff.1 hg).1, hg, by simp; omega, fun j hj => ?_⟩⟩, fun j hj => ?_⟩
  · rcases hu.2 with ⟨h3, _⟩ | ⟨g', cap, cur, h3, hg', hh, hnc, _, hs, _⟩
    · simp only [Value.slice.injEq] at h3
      exact .inl h3.2.1
    · simp only [Value.slice.injEq] at h3
      obtain ⟨rfl, _, rfl⟩ := h3
      exact .inr ⟨g', cur, rfl, hg', (Array.getElem?_eq_some_iff.1 hh).1, hh, by omega⟩
  · obtain ⟨A, c', h1, h2, h3⟩ := hd j hj
    rw [h2]
    exact ⟨by simpa using h1, h3⟩
  · obtain ⟨A, c', h1, h2, h3⟩ := hd j hj
    rw [h2]
    exact (hw.wf _ (List.getElem_mem hj)).len
theorem fresh_shape {w : World} {base : Nat} {x : TabC} {Au Ar : Option Addr} {cu cr : Nat} (h : FreshT w base x Au Ar cu cr) (hw : TabW x) : ∃ dv, Shape w base w.heap.size Au x.us.length Ar x.rows.length dv ∧ ∀ j, j < x.rows.length → (dv j).2.1 ≤ 1000000 := by
  rcases h with ⟨h1, h2⟩ | ⟨g, rfl, h⟩
  · rw [h1, h2]
    exact ⟨fun _ => (none, 0, 0), ⟨.inl rfl, .inl rfl⟩, fun j hj => by simp⟩
  · exact new_shape h hw
set_option maxRecDepth 100000 in
set_option maxHeartbeats 32000000 in
theorem does_any (t o : TabC) (a : RecC) (s : ByteArray) (Au : Option Addr) (cu : Nat) (Ar : Option Addr) (cr : Nat) (Bu : Option Addr) (du : Nat) (Br : Option Addr) (dr : Nat) (Aa : Option Addr) (ca : Nat) (w : World) (ht : InT w t Au Ar) (ho : InT w o Bu Br) (ha : InRec w a Aa ca) (hT : Tabs w) :
    Calls Tryz.prog 3 #[.agg #[.string t.name, .int .i64 t.most, .slice Au t.us.length cu, .slice Ar t.rows.length cr], .agg #[.string o.name, .int .i64 o.most, .slice Bu o.us.length du, .slice Br o.rows.length dr], .agg #[.string a.id, .slice Aa a.data.length ca], .string s] w fun e w' => e = .returned (.bool true) ∧ Below w.heap.size w w' := by
  obtain ⟨W1, hW1⟩ : ∃ W1, W1 = ((w.alloc (.cells #[.string t.name, .int .i64 t.most, .slice Au t.us.length cu, .slice Ar t.rows.length cr] 25)).alloc (.cells #[.string o.name, .int .i64 o.most, .slice Bu o.us.length du, .slice Br o.rows.length dr] 25)).alloc (.cells #[.string a.id, .slice Aa a.data.length ca] 28) := ⟨_, rfl⟩
  have hz : W1.heap.size = w.heap.size + 1 + 1 + 1 := by rw [hW1]; simp
  have h01 : Below w.heap.size w W1 := by rw [hW1]; exact (((Below.refl _ _).alloc (Nat.le_refl _) _).alloc (by simp) _).alloc (by simp; omega) _
  have kt : ∀ W, Below W1.heap.size W1 W → Four W w.heap.size (.string t.name) (.int .i64 t.most) (.slice Au t.us.length cu) (.slice Ar t.rows.length cr) := fun W q => by
    refine Four.below (W := W1) ?_ q (by omega)
    rw [hW1]
    exact ((Four.new w _ _ _ _ _).grown (World.grownBy_alloc _ _ none) (by simp)).grown (World.grownBy_alloc _ _ none) (by simp)
  have ko : ∀ W, Below W1.heap.size W1 W → Four W (w.heap.size + 1) (.string o.name) (.int .i64 o.most) (.slice Bu o.us.length du) (.slice Br o.rows.length dr) := fun W q => by
    refine Four.below (W := W1) ?_ q (by omega)
    have g := (Four.new (w.alloc (.cells #[.string t.name, .int .i64 t.most, .slice Au t.us.length cu, .slice Ar t.rows.length cr] 25)) (.string o.name) (.int .i64 o.most) (.slice Bu o.us.length du) (.slice Br o.rows.length dr) 25).grown (World.grownBy_alloc _ (.cells #[.string a.id, .slice Aa a.data.length ca] 28) none) (by simp)
    rw [hW1]
    simpa using g
  have ka : ∀ W, Below W1.heap.size W1 W → Pair2 W (w.heap.size + 1 + 1) (.string a.id) (.slice Aa a.data.length ca) := fun W q => by
    refine Pair2.below (W := W1) ?_ q (by omega)
    have g := Pair2.new ((w.alloc (.cells #[.string t.name, .int .i64 t.most, .slice Au t.us.length cu, .slice Ar t.rows.length cr] 25)).alloc (.cells #[.string o.name, .int .i64 o.most, .slice Bu o.us.length du, .slice Br o.rows.length dr] 25)) (.string a.id) (.slice Aa a.data.length ca) 28
    rw [hW1]
    simpa using g
  have dW : ∀ W, Below W1.heap.size W1 W → Below w.heap.size w W := fun W q => h01.trans (q.mono h01.size)
  have cg := fun W (q : Below W1.heap.size W1 W) => great_t t Au cu Ar cr W (ht.us.thru (dW W q) (Nat.le_refl _)) (ht.rows.thru (dW W q) (Nat.le_refl _)) (dW W q).size ht.ul ht.rl
  have cgo := fun W (q : Below W1.heap.size W1 W) => great_t o Bu du Br dr W (ho.us.thru (dW W q) (Nat.le_refl _)) (ho.rows.thru (dW W q) (Nat.le_refl _)) (dW W q).size ho.ul ho.rl
  have cga := fun W (q : Below W1.heap.size W1 W) => great_rec a Aa ca W (ha.rd.rd.thru (dW W q) (Nat.le_refl _)) (dW W q).size (Nat.le_trans ha.rd.cap ha.rd.cm)
  have KT := Lib.hid kt
  have KO := Lib.hid ko
  have KA := Lib.hid ka
  have DW := Lib.hid dW
  have HI := Lib.hid (And.intro ht (And.intro ho (And.intro ha hT)))
  obtain ⟨GT, hGT⟩ : ∃ G, greatT t = G := ⟨_, rfl⟩
  obtain ⟨GO, hGO⟩ : ∃ G, greatT o = G := ⟨_, rfl⟩
  obtain ⟨GA, hGA⟩ : ∃ G, greatR a = G := ⟨_, rfl⟩
  simp only [hGT] at cg
  simp only [hGO] at cgo
  simp only [hGA] at cga
  have CG := Lib.hid cg
  have CGO := Lib.hid cgo
  have CGA := Lib.hid cga
  have HG := Lib.hid (And.intro hGT (And.intro hGO hGA))
  have q0 := Below.refl W1.heap.size W1
  obtain ⟨t10, t11, t12, t13, _⟩ := kt W1 q0
  have c := cg W1 q0
  have HW1 := Lib.hid hW1
  clear ht ho ha hT kt ko ka dW cg cgo cga hGT hGO hGA hz h01 hW1
  go_enter Tryz.func3, Tryz.ntmps3
  go_wp2_with fail
  rw [← HW1.out]
  refine c.mono ?_
  rintro e w1 ⟨rfl, hb1⟩
  clear c t10 t11 t12 t13
  have q1 : Below W1.heap.size W1 w1 := hb1
  cases GT with
  | true =>
    go_wp2
    go_ret
    exact ⟨rfl, DW.out _ q1⟩
  | false =>
  obtain ⟨o20, o21, o22, o23, _⟩ := KO.out w1 q1
  have c := CGO.out w1 q1
  go_wp2_with fail
  refine c.mono ?_
  rintro e w2 ⟨rfl, hb2⟩
  clear c o20 o21 o22 o23
  have q2 := q1.trans (hb2.mono q1.size)
  cases GO with
  | true =>
    go_wp2
    go_ret
    exact ⟨rfl, DW.out _ q2⟩
  | false =>
  obtain ⟨a20, a21⟩ := KA.out w2 q2
  have c := CGA.out w2 q2
  go_wp2_with fail
  refine c.mono ?_
  rintro e w3 ⟨rfl, hb3⟩
  clear c a20 a21
  have q3 := q2.trans (hb3.mono q2.size)
  cases GA with
  | true =>
    go_wp2
    go_ret
    exact ⟨rfl, DW.out _ q3⟩
  | false =>
  by_cases hsl : 300 < s.size
  · have hslI : decide ((300 : Int) < s.size) = true := by simp; omega
    go_wp2
    go_ret
    exact ⟨rfl, DW.out _ q3⟩
  have hslI : decide ((300 : Int) < s.size) = false := by simp; omega
  obtain ⟨hGT, hGO, hGA⟩ := HG.out
  obtain ⟨ht, ho, ha, hT⟩ := HI.out
  have hK := ht.tabK hGT
  have hKo := ho.tabK hGO
  have wa := ha.recW hGA
  have dT : ∀ W, Below w.heap.size w W → Tabs W := fun W q => hT.below q
  have tI := fun W (q : Below w.heap.size w W) => (ht.tabIn hT hK (by omega)).below q
  have oI := fun W (q : Below w.heap.size w W) => (ho.tabIn hT hKo (by omega)).below q
  have rT := fun W (q : Below w.heap.size w W) => (ht.rtab hGT).below q
  have rR := fun W (q : Below w.heap.size w W) => (ha.rrec hGA).below q
  have hTW := hK.tabW (show 12 ≤ 900 by omega)
  have kP := (putT_K hK wa).tabW (by omega)
  have kS := (setT_K hK wa).tabW (by omega)
  have kD := (dropT_K (id := s) hK).tabW (by omega)
  have wy : RecW ((getT t s).getD zeroR) := getT_W hK
  have pTw := fun W (q : Below w.heap.size w W) => rtwinT_any t Au cu Ar cr W (rT W q)
  have pGr := fun W (q : Below w.heap.size w W) => rget_any t s Au cu Ar cr W (rT W q)
  have pPr := fun W (q : Below w.heap.size w W) => rput_any t a Au cu Ar cr Aa ca W (rT W q) (rR W q) ha.id
  have pSr := fun W (q : Below w.heap.size w W) => rset_any t a Au cu Ar cr Aa ca W (rT W q) (rR W q) ha.id
  have pDr := fun W (q : Below w.heap.size w W) => rdrop_any t s Au cu Ar cr W (rT W q)
  simp only [putQ_eq] at pPr
  simp only [setQ_eq] at pSr
  simp only [dropQ_eq] at pDr
  have oT := fun (W4 W : World) (base : Nat) (Ao : Option Addr) (co : Nat) (Aro : Option Addr) (cro : Nat) (ou : W4.ownsRow base 9 1 (.slice Ao t.us.length co) t.us.length (sv t.us)) (orr : OwnRows W4 base Aro cro t.rows) (q4 : Below w.heap.size w W4) (q : Below W4.heap.size W4 W) => own_tab ou orr q (dT W (q4.trans (q.mono q4.size))) hTW
  have oargs := True.intro
  have pG := fun (W4 W : World) (base : Nat) (Ao : Option Addr) (co : Nat) (Aro : Option Addr) (cro : Nat) (ou : W4.ownsRow base 9 1 (.slice Ao t.us.length co) t.us.length (sv t.us)) (orr : OwnRows W4 base Aro cro t.rows) (q4 : Below w.heap.size w W4) (q : Below W4.heap.size W4 W) => get_t t s Ao co Aro cro W (oT W4 W base Ao co Aro cro ou orr q4 q) hTW
  have pP := fun (W4 W : World) (base : Nat) (Ao : Option Addr) (co : Nat) (Aro : Option Addr) (cro : Nat) (ou : W4.ownsRow base 9 1 (.slice Ao t.us.length co) t.us.length (sv t.us)) (orr : OwnRows W4 base Aro cro t.rows) (q4 : Below w.heap.size w W4) (q : Below W4.heap.size W4 W) => put_t t a Ao co Aro cro Aa ca W (oT W4 W base Ao co Aro cro ou orr q4 q) hTW (ha.rd.thru (q4.trans (q.mono q4.size)) (Nat.le_refl _)) (q4.trans (q.mono q4.size)).size wa
  have pS := fun (W4 W : World) (base : Nat) (Ao : Option Addr) (co : Nat) (Aro : Option Addr) (cro : Nat) (ou : W4.ownsRow base 9 1 (.slice Ao t.us.length co) t.us.length (sv t.us)) (orr : OwnRows W4 base Aro cro t.rows) (q4 : Below w.heap.size w W4) (q : Below W4.heap.size W4 W) => set_t t a Ao co Aro cro Aa ca W (oT W4 W base Ao co Aro cro ou orr q4 q) hTW (ha.rd.thru (q4.trans (q.mono q4.size)) (Nat.le_refl _)) (q4.trans (q.mono q4.size)).size wa
  have pD := fun (W4 W : World) (base : Nat) (Ao : Option Addr) (co : Nat) (Aro : Option Addr) (cro : Nat) (ou : W4.ownsRow base 9 1 (.slice Ao t.us.length co) t.us.length (sv t.us)) (orr : OwnRows W4 base Aro cro t.rows) (q4 : Below w.heap.size w W4) (q : Below W4.heap.size W4 W) => drop_t t s Ao co Aro cro W (oT W4 W base Ao co Aro cro ou orr q4 q) hTW
  have pC := fun (W4 W : World) (base : Nat) (Ao : Option Addr) (co : Nat) (Aro : Option Addr) (cro : Nat) (ou : W4.ownsRow base 9 1 (.slice Ao t.us.length co) t.us.length (sv t.us)) (orr : OwnRows W4 base Aro cro t.rows) (q4 : Below w.heap.size w W4) (q : Below W4.heap.size W4 W) => check_t t Ao co Aro cro W (oT W4 W base Ao co Aro cro ou orr q4 q) hTW.uz
  have pCr := fun W (q : Below w.heap.size w W) => rcheck_any t Au cu Ar cr W (rT W q)
  have pSO := fun (W4 W : World) (base : Nat) (Ao : Option Addr) (co : Nat) (Aro : Option Addr) (cro : Nat) (ou : W4.ownsRow base 9 1 (.slice Ao t.us.length co) t.us.length (sv t.us)) (orr : OwnRows W4 base Aro cro t.rows) (q4 : Below w.heap.size w W4) (q : Below W4.heap.size W4 W) => tsame_any t o Ao co Aro cro Bu du Br dr W (oT W4 W base Ao co Aro cro ou orr q4 q) (oI W (q4.trans (q.mono q4.size))) (by have := hTW.rl; omega)
  have pST := fun (W4 W : World) (base : Nat) (Ao : Option Addr) (co : Nat) (Aro : Option Addr) (cro : Nat) (ou : W4.ownsRow base 9 1 (.slice Ao t.us.length co) t.us.length (sv t.us)) (orr : OwnRows W4 base Aro cro t.rows) (q4 : Below w.heap.size w W4) (q : Below W4.heap.size W4 W) => tsame_any t t Ao co Aro cro Au cu Ar cr W (oT W4 W base Ao co Aro cro ou orr q4 q) (tI W (q4.trans (q.mono q4.size))) (by have := hTW.rl; omega)
  have pSOr := fun W (q : Below w.heap.size w W) => same_t t o Au cu Ar cr Bu du Br dr W (tI W q) (oI W q)
  have pZ := fun (W4 W : World) (base : Nat) (Ao : Option Addr) (co : Nat) (Aro : Option Addr) (cro : Nat) (ou : W4.ownsRow base 9 1 (.slice Ao t.us.length co) t.us.length (sv t.us)) (orr : OwnRows W4 base Aro cro t.rows) (q4 : Below w.heap.size w W4) (q : Below W4.heap.size W4 W) => twin_tab t Ao co Aro cro W (oT W4 W base Ao co Aro cro ou orr q4 q)
  have pOT := fun (W4 W : World) (base : Nat) (Ao : Option Addr) (co : Nat) (Aro : Option Addr) (cro : Nat) (ou : W4.ownsRow base 9 1 (.slice Ao t.us.length co) t.us.length (sv t.us)) (orr : OwnRows W4 base Aro cro t.rows) (q4 : Below w.heap.size w W4) (q : Below W4.heap.size W4 W) => same_t t t Ao co Aro cro Au cu Ar cr W (oT W4 W base Ao co Aro cro ou orr q4 q) (tI W (q4.trans (q.mono q4.size)))
  have pZT := fun (W5 W : World) (base : Nat) (Az : Option Addr) (cz gz : Nat) (f : NewTab W5 base t Az cz gz t.rows.length) (q5 : Below w.heap.size w W5) (q : Below W5.heap.size W5 W) => same_t t t Az cz (some ⟨gz, 0, none⟩) t.rows.length Au cu Ar cr W ((f.tabIn (dT W5 q5) hTW).below q) (tI W (q5.trans (q.mono q5.size)))
  simp only [(sameT_iff _ _).2 rfl] at pST pOT pZT
  obtain ⟨y, hy⟩ : ∃ y, (getT t s).getD zeroR = y := ⟨_, rfl⟩
  obtain ⟨yb, hyb⟩ : ∃ y, (getT t s).isSome = y := ⟨_, rfl⟩
  simp only [hy, hyb] at pG pGr
  rw [hy] at wy
  obtain ⟨Xp, hXp⟩ : ∃ x, (putT t a).1 = x := ⟨_, rfl⟩
  obtain ⟨Ep, hEp⟩ : ∃ x, (putT t a).2 = x := ⟨_, rfl⟩
  obtain ⟨Xs, hXs⟩ : ∃ x, (setT t a).1 = x := ⟨_, rfl⟩
  obtain ⟨Es, hEs⟩ : ∃ x, (setT t a).2 = x := ⟨_, rfl⟩
  obtain ⟨Xd, hXd⟩ : ∃ x, (dropT t s).1 = x := ⟨_, rfl⟩
  obtain ⟨Ed, hEd⟩ : ∃ x, (dropT t s).2 = x := ⟨_, rfl⟩
  simp only [hXp, hEp] at pP pPr
  simp only [hXs, hEs] at pS pSr
  simp only [hXd, hEd] at pD pDr
  rw [hXp] at kP
  rw [hXs] at kS
  rw [hXd] at kD
  have pSY := fun (W7 W8 W : World) (base base8 : Nat) (A7 : Option Addr) (c7 : Nat) (A8 : Option Addr) (c8 : Nat) (o7 : W7.ownsRow base 47 5 (.slice A7 y.data.length c7) y.data.length (cv y.data)) (o8 : W8.ownsRow base8 47 5 (.slice A8 y.data.length c8) y.data.length (cv y.data)) (q7 : Below W7.heap.size W7 W) (q8 : Below W8.heap.size W8 W) => same_rec y y A7 A8 c7 c8 W ((rd_ofK2 o7).thru q7 (Nat.le_refl _)) ((rd_ofK2 o8).thru q8 (Nat.le_refl _)) q7.size q8.size (by have := wy.len; omega)
  simp only [(sameR_iff _ _).2 rfl] at pSY
  have pSX := fun (x : TabC) (kx : TabW x) (W5 W6 W : World) (base base6 : Nat) (A5 : Option Addr) (c5 : Nat) (Ar5 : Option Addr) (cr5 : Nat) (A6 : Option Addr) (c6 : Nat) (Ar6 : Option Addr) (cr6 : Nat) (f : FreshT W5 base x A5 Ar5 c5 cr5) (ou : W6.ownsRow base6 9 1 (.slice A6 x.us.length c6) x.us.length (sv x.us)) (orr : OwnRows W6 base6 Ar6 cr6 x.rows) (q5 : Below w.heap.size w W5) (q5' : Below W5.heap.size W5 W) (q6' : Below W6.heap.size W6 W) => same_t x x A5 c5 Ar5 cr5 A6 c6 Ar6 cr6 W ((f.tabIn (dT W5 q5) kx).below q5') (own_tab ou orr q6' (dT W (q5.trans (q5'.mono q5.size))) kx)
  simp only [(sameT_iff _ _).2 rfl] at pSX
  obtain ⟨CT, hCT⟩ : ∃ x, checkT t = x := ⟨_, rfl⟩
  obtain ⟨SO, hSO⟩ : ∃ x, sameT t o = x := ⟨_, rfl⟩
  simp only [hCT] at pC pCr
  simp only [hSO] at pSO pSOr
  unfold RTwin at pTw
  unfold GetPost at pG pGr
  unfold ResPost at pP pS pD
  unfold RRes at pPr pSr pDr
  unfold TwinT at pZ
  have HK := Lib.hid (And.intro kP (And.intro kS (And.intro kD (And.intro hTW wy))))
  have PTw := Lib.hid pTw
  have PG := Lib.hid pG
  have PGr := Lib.hid pGr
  have PP := Lib.hid pP
  have PPr := Lib.hid pPr
  have PS := Lib.hid pS
  have PSr := Lib.hid pSr
  have PD := Lib.hid pD
  have PDr := Lib.hid pDr
  have PC := Lib.hid pC
  have PCr := Lib.hid pCr
  have PSO := Lib.hid pSO
  have PST := Lib.hid pST
  have PSOr := Lib.hid pSOr
  have PZ := Lib.hid pZ
  have POT := Lib.hid pOT
  have PZT := Lib.hid pZT
  have PSY := Lib.hid pSY
  have PSX := Lib.hid pSX
  clear oargs ht ho ha hT hK hKo wa dT tI oI rT rR hTW kP kS kD wy oT hGT hGO hGA hy hyb hXp hEp hXs hEs hXd hEd hCT hSO pTw pG pGr pP pPr pS pSr pD pDr pC pCr pSO pST pSOr pZ pOT pZT pSY pSX
  have d3 := DW.out _ q3
  have t3_0 := (KT.out w3 q3).c0
  have t3_1 := (KT.out w3 q3).c1
  have t3_2 := (KT.out w3 q3).c2
  have t3_3 := (KT.out w3 q3).c3
  have c := PTw.out w3 d3
  go_wp2_with fail
  refine c.mono ?_
  rintro e w4 ⟨Ao, co, Aro, cro, rfl, ou, orr, hb4⟩
  clear c t3_0 t3_1 t3_2 t3_3
  have u4 : Below w3.heap.size w3 w4 := hb4
  have q4 := q3.trans (u4.mono q3.size)
  have d4 := DW.out _ q4
  have v4_4 := Below.refl w4.heap.size w4
  have Hou := Lib.hid ou
  clear ou
  have Horr := Lib.hid orr
  clear orr
  have n40 := fun (v0 v1 v2 v3 : Value) (T : TypeId) => (Four.new w4 v0 v1 v2 v3 T).c0
  have n41 := fun (v0 v1 v2 v3 : Value) (T : TypeId) => (Four.new w4 v0 v1 v2 v3 T).c1
  have n42 := fun (v0 v1 v2 v3 : Value) (T : TypeId) => (Four.new w4 v0 v1 v2 v3 T).c2
  have n43 := fun (v0 v1 v2 v3 : Value) (T : TypeId) => (Four.new w4 v0 v1 v2 v3 T).c3
  have c := fun (o : Obj) => PG.out w4 (w4.alloc o) _ _ _ _ _ Hou.out Horr.out d4 (v4_4.alloc v4_4.size o)
  go_wp2_with fail
  refine (c _).mono ?_
  rintro e w5 ⟨A5, c5, rfl, o5, hb5⟩
  clear c n40 n41 n42 n43
  have u5 : Below w4.heap.size w4 w5 := ((Below.refl _ _).alloc (Nat.le_refl _) _).trans (hb5.mono (by simp))
  have q5 := q4.trans (u5.mono q4.size)
  have d5 := DW.out _ q5
  have y5 := four_new hb5
  have HY5 := Lib.hid (fun (W : World) (q : Below w5.heap.size w5 W) => y5.below q (four_lt y5))
  clear y5
  have v4_5 := v4_4.trans (u5.mono v4_4.size)
  have v5_5 := Below.refl w5.heap.size w5
  have Ho5 := Lib.hid o5
  clear o5
  have t5_0 := fun (o : Obj) => (KT.out (w5.alloc o) (q5.alloc q5.size o)).c0
  have t5_1 := fun (o : Obj) => (KT.out (w5.alloc o) (q5.alloc q5.size o)).c1
  have t5_2 := fun (o : Obj) => (KT.out (w5.alloc o) (q5.alloc q5.size o)).c2
  have t5_3 := fun (o : Obj) => (KT.out (w5.alloc o) (q5.alloc q5.size o)).c3
  have c := fun (o : Obj) => PGr.out (w5.alloc o) (d5.alloc d5.size o)
  go_wp2_with fail
  refine (c _).mono ?_
  rintro e w6 ⟨A6, c6, rfl, o6, hb6⟩
  clear c t5_0 t5_1 t5_2 t5_3
  have u6 : Below w5.heap.size w5 w6 := ((Below.refl _ _).alloc (Nat.le_refl _) _).trans (hb6.mono (by simp))
  have q6 := q5.trans (u6.mono q5.size)
  have d6 := DW.out _ q6
  have y6 := pair_new hb6
  have HY6 := Lib.hid (fun (W : World) (q : Below w6.heap.size w6 W) => y6.below q (pair_lt y6))
  clear y6
  have v4_6 := v4_5.trans (u6.mono v4_5.size)
  have v5_6 := v5_5.trans (u6.mono v5_5.size)
  have v6_6 := Below.refl w6.heap.size w6
  have Ho6 := Lib.hid o6
  clear o6
  have own6_0 := fun (o : Obj) => (HY5.out (w6.alloc o) (v5_6.alloc v5_6.size o)).c0
  have own6_1 := fun (o : Obj) => (HY5.out (w6.alloc o) (v5_6.alloc v5_6.size o)).c1
  have own6_2 := fun (o : Obj) => (HY5.out (w6.alloc o) (v5_6.alloc v5_6.size o)).c2
  have own6_3 := fun (o : Obj) => (HY5.out (w6.alloc o) (v5_6.alloc v5_6.size o)).c3
  have r6_0 := fun (o : Obj) => (KA.out (w6.alloc o) (q6.alloc q6.size o)).1
  have r6_1 := fun (o : Obj) => (KA.out (w6.alloc o) (q6.alloc q6.size o)).2
  have c := fun (o : Obj) => PP.out w4 (w6.alloc o) _ _ _ _ _ Hou.out Horr.out d4 (v4_6.alloc v4_6.size o)
  go_wp2_with fail
  refine (c _).mono ?_
  rintro e w7 ⟨Au7, cu7, Ar7, cr7, rfl, f7, hb7⟩
  clear c own6_0 own6_1 own6_2 own6_3 r6_0 r6_1
  have u7 : Below w6.heap.size w6 w7 := ((Below.refl _ _).alloc (Nat.le_refl _) _).trans (hb7.mono (by simp))
  have q7 := q6.trans (u7.mono q6.size)
  have d7 := DW.out _ q7
  have y7 := pair_new hb7
  have HY7 := Lib.hid (fun (W : World) (q : Below w7.heap.size w7 W) => y7.below q (pair_lt y7))
  clear y7
  have v4_7 := v4_6.trans (u7.mono v4_6.size)
  have v5_7 := v5_6.trans (u7.mono v5_6.size)
  have v6_7 := v6_6.trans (u7.mono v6_6.size)
  have v7_7 := Below.refl w7.heap.size w7
  have Hf7 := Lib.hid f7
  clear f7
  have t7_0 := fun (o : Obj) => (KT.out (w7.alloc o) (q7.alloc q7.size o)).c0
  have t7_1 := fun (o : Obj) => (KT.out (w7.alloc o) (q7.alloc q7.size o)).c1
  have t7_2 := fun (o : Obj) => (KT.out (w7.alloc o) (q7.alloc q7.size o)).c2
  have t7_3 := fun (o : Obj) => (KT.out (w7.alloc o) (q7.alloc q7.size o)).c3
  have r7_0 := fun (o : Obj) => (KA.out (w7.alloc o) (q7.alloc q7.size o)).1
  have r7_1 := fun (o : Obj) => (KA.out (w7.alloc o) (q7.alloc q7.size o)).2
  have c := fun (o : Obj) => PPr.out (w7.alloc o) (d7.alloc d7.size o)
  go_wp2_with fail
  refine (c _).mono ?_
  rintro e w8 ⟨Au8, cu8, Ar8, cr8, rfl, ou8, or8, hb8⟩
  clear c t7_0 t7_1 t7_2 t7_3 r7_0 r7_1
  have u8 : Below w7.heap.size w7 w8 := ((Below.refl _ _).alloc (Nat.le_refl _) _).trans (hb8.mono (by simp))
  have q8 := q7.trans (u8.mono q7.size)
  have d8 := DW.out _ q8
  have y8 := four_new hb8
  have HY8 := Lib.hid (fun (W : World) (q : Below w8.heap.size w8 W) => y8.below q (four_lt y8))
  clear y8
  have v4_8 := v4_7.trans (u8.mono v4_7.size)
  have v5_8 := v5_7.trans (u8.mono v5_7.size)
  have v6_8 := v6_7.trans (u8.mono v6_7.size)
  have v7_8 := v7_7.trans (u8.mono v7_7.size)
  have v8_8 := Below.refl w8.heap.size w8
  have Hou8 := Lib.hid ou8
  clear ou8
  have Hor8 := Lib.hid or8
  clear or8
  have own8_0 := fun (o : Obj) => (HY5.out (w8.alloc o) (v5_8.alloc v5_8.size o)).c0
  have own8_1 := fun (o : Obj) => (HY5.out (w8.alloc o) (v5_8.alloc v5_8.size o)).c1
  have own8_2 := fun (o : Obj) => (HY5.out (w8.alloc o) (v5_8.alloc v5_8.size o)).c2
  have own8_3 := fun (o : Obj) => (HY5.out (w8.alloc o) (v5_8.alloc v5_8.size o)).c3
  have r8_0 := fun (o : Obj) => (KA.out (w8.alloc o) (q8.alloc q8.size o)).1
  have r8_1 := fun (o : Obj) => (KA.out (w8.alloc o) (q8.alloc q8.size o)).2
  have c := fun (o : Obj) => PS.out w4 (w8.alloc o) _ _ _ _ _ Hou.out Horr.out d4 (v4_8.alloc v4_8.size o)
  go_wp2_with fail
  refine (c _).mono ?_
  rintro e w9 ⟨Au9, cu9, Ar9, cr9, rfl, f9, hb9⟩
  clear c own8_0 own8_1 own8_2 own8_3 r8_0 r8_1
  have u9 : Below w8.heap.size w8 w9 := ((Below.refl _ _).alloc (Nat.le_refl _) _).trans (hb9.mono (by simp))
  have q9 := q8.trans (u9.mono q8.size)
  have d9 := DW.out _ q9
  have y9 := four_new hb9
  have HY9 := Lib.hid (fun (W : World) (q : Below w9.heap.size w9 W) => y9.below q (four_lt y9))
  clear y9
  have v4_9 := v4_8.trans (u9.mono v4_8.size)
  have v5_9 := v5_8.trans (u9.mono v5_8.size)
  have v6_9 := v6_8.trans (u9.mono v6_8.size)
  have v7_9 := v7_8.trans (u9.mono v7_8.size)
  have v8_9 := v8_8.trans (u9.mono v8_8.size)
  have v9_9 := Below.refl w9.heap.size w9
  have Hf9 := Lib.hid f9
  clear f9
  have t9_0 := fun (o : Obj) => (KT.out (w9.alloc o) (q9.alloc q9.size o)).c0
  have t9_1 := fun (o : Obj) => (KT.out (w9.alloc o) (q9.alloc q9.size o)).c1
  have t9_2 := fun (o : Obj) => (KT.out (w9.alloc o) (q9.alloc q9.size o)).c2
  have t9_3 := fun (o : Obj) => (KT.out (w9.alloc o) (q9.alloc q9.size o)).c3
  have r9_0 := fun (o : Obj) => (KA.out (w9.alloc o) (q9.alloc q9.size o)).1
  have r9_1 := fun (o : Obj) => (KA.out (w9.alloc o) (q9.alloc q9.size o)).2
  have c := fun (o : Obj) => PSr.out (w9.alloc o) (d9.alloc d9.size o)
  go_wp2_with fail
  refine (c _).mono ?_
  rintro e w10 ⟨Au10, cu10, Ar10, cr10, rfl, ou10, or10, hb10⟩
  clear c t9_0 t9_1 t9_2 t9_3 r9_0 r9_1
  have u10 : Below w9.heap.size w9 w10 := ((Below.refl _ _).alloc (Nat.le_refl _) _).trans (hb10.mono (by simp))
  have q10 := q9.trans (u10.mono q9.size)
  have d10 := DW.out _ q10
  have y10 := four_new hb10
  have HY10 := Lib.hid (fun (W : World) (q : Below w10.heap.size w10 W) => y10.below q (four_lt y10))
  clear y10
  have v4_10 := v4_9.trans (u10.mono v4_9.size)
  have v5_10 := v5_9.trans (u10.mono v5_9.size)
  have v6_10 := v6_9.trans (u10.mono v6_9.size)
  have v7_10 := v7_9.trans (u10.mono v7_9.size)
  have v8_10 := v8_9.trans (u10.mono v8_9.size)
  have v9_10 := v9_9.trans (u10.mono v9_9.size)
  have v10_10 := Below.refl w10.heap.size w10
  have Hou10 := Lib.hid ou10
  clear ou10
  have Hor10 := Lib.hid or10
  clear or10
  have own10_0 := fun (o : Obj) => (HY5.out (w10.alloc o) (v5_10.alloc v5_10.size o)).c0
  have own10_1 := fun (o : Obj) => (HY5.out (w10.alloc o) (v5_10.alloc v5_10.size o)).c1
  have own10_2 := fun (o : Obj) => (HY5.out (w10.alloc o) (v5_10.alloc v5_10.size o)).c2
  have own10_3 := fun (o : Obj) => (HY5.out (w10.alloc o) (v5_10.alloc v5_10.size o)).c3
  have c := fun (o : Obj) => PD.out w4 (w10.alloc o) _ _ _ _ _ Hou.out Horr.out d4 (v4_10.alloc v4_10.size o)
  go_wp2_with fail
  refine (c _).mono ?_
  rintro e w11 ⟨Au11, cu11, Ar11, cr11, rfl, f11, hb11⟩
  clear c own10_0 own10_1 own10_2 own10_3
  have u11 : Below w10.heap.size w10 w11 := ((Below.refl _ _).alloc (Nat.le_refl _) _).trans (hb11.mono (by simp))
  have q11 := q10.trans (u11.mono q10.size)
  have d11 := DW.out _ q11
  have y11 := four_new hb11
  have HY11 := Lib.hid (fun (W : World) (q : Below w11.heap.size w11 W) => y11.below q (four_lt y11))
  clear y11
  have v4_11 := v4_10.trans (u11.mono v4_10.size)
  have v5_11 := v5_10.trans (u11.mono v5_10.size)
  have v6_11 := v6_10.trans (u11.mono v6_10.size)
  have v7_11 := v7_10.trans (u11.mono v7_10.size)
  have v8_11 := v8_10.trans (u11.mono v8_10.size)
  have v9_11 := v9_10.trans (u11.mono v9_10.size)
  have v10_11 := v10_10.trans (u11.mono v10_10.size)
  have v11_11 := Below.refl w11.heap.size w11
  have Hf11 := Lib.hid f11
  clear f11
  have t11_0 := fun (o : Obj) => (KT.out (w11.alloc o) (q11.alloc q11.size o)).c0
  have t11_1 := fun (o : Obj) => (KT.out (w11.alloc o) (q11.alloc q11.size o)).c1
  have t11_2 := fun (o : Obj) => (KT.out (w11.alloc o) (q11.alloc q11.size o)).c2
  have t11_3 := fun (o : Obj) => (KT.out (w11.alloc o) (q11.alloc q11.size o)).c3
  have c := fun (o : Obj) => PDr.out (w11.alloc o) (d11.alloc d11.size o)
  go_wp2_with fail
  refine (c _).mono ?_
  rintro e w12 ⟨Au12, cu12, Ar12, cr12, rfl, ou12, or12, hb12⟩
  clear c t11_0 t11_1 t11_2 t11_3
  have u12 : Below w11.heap.size w11 w12 := ((Below.refl _ _).alloc (Nat.le_refl _) _).trans (hb12.mono (by simp))
  have q12 := q11.trans (u12.mono q11.size)
  have d12 := DW.out _ q12
  have y12 := four_new hb12
  have HY12 := Lib.hid (fun (W : World) (q : Below w12.heap.size w12 W) => y12.below q (four_lt y12))
  clear y12
  have v4_12 := v4_11.trans (u12.mono v4_11.size)
  have v5_12 := v5_11.trans (u12.mono v5_11.size)
  have v6_12 := v6_11.trans (u12.mono v6_11.size)
  have v7_12 := v7_11.trans (u12.mono v7_11.size)
  have v8_12 := v8_11.trans (u12.mono v8_11.size)
  have v9_12 := v9_11.trans (u12.mono v9_11.size)
  have v10_12 := v10_11.trans (u12.mono v10_11.size)
  have v11_12 := v11_11.trans (u12.mono v11_11.size)
  have v12_12 := Below.refl w12.heap.size w12
  have Hou12 := Lib.hid ou12
  clear ou12
  have Hor12 := Lib.hid or12
  clear or12
  have ga12_0 := fun (o : Obj) => (HY6.out (w12.alloc o) (v6_12.alloc v6_12.size o)).1
  have ga12_1 := fun (o : Obj) => (HY6.out (w12.alloc o) (v6_12.alloc v6_12.size o)).2
  have gb12_0 := fun (o : Obj) => (HY7.out (w12.alloc o) (v7_12.alloc v7_12.size o)).1
  have gb12_1 := fun (o : Obj) => (HY7.out (w12.alloc o) (v7_12.alloc v7_12.size o)).2
  have c := fun (o : Obj) => PSY.out w5 w6 (w12.alloc o) _ _ _ _ _ _ Ho5.out Ho6.out (v5_12.alloc v5_12.size o) (v6_12.alloc v6_12.size o)
  go_wp2_with fail
  refine (c _).mono ?_
  rintro e w13 ⟨rfl, hb13⟩
  clear c ga12_0 ga12_1 gb12_0 gb12_1
  have u13 : Below w12.heap.size w12 w13 := ((Below.refl _ _).alloc (Nat.le_refl _) _).trans (hb13.mono (by simp))
  have q13 := q12.trans (u13.mono q12.size)
  have d13 := DW.out _ q13
  have y13 := four_new hb13
  have HY13 := Lib.hid (fun (W : World) (q : Below w13.heap.size w13 W) => y13.below q (four_lt y13))
  clear y13
  have v4_13 := v4_12.trans (u13.mono v4_12.size)
  have v5_13 := v5_12.trans (u13.mono v5_12.size)
  have v6_13 := v6_12.trans (u13.mono v6_12.size)
  have v7_13 := v7_12.trans (u13.mono v7_12.size)
  have v8_13 := v8_12.trans (u13.mono v8_12.size)
  have v9_13 := v9_12.trans (u13.mono v9_12.size)
  have v10_13 := v10_12.trans (u13.mono v10_12.size)
  have v11_13 := v11_12.trans (u13.mono v11_12.size)
  have v12_13 := v12_12.trans (u13.mono v12_12.size)
  have v13_13 := Below.refl w13.heap.size w13
  have c13_0 := (HY8.out w13 v8_13).c0
  have c13_1 := (HY8.out w13 v8_13).c1
  have c13_2 := (HY8.out w13 v8_13).c2
  have c13_3 := (HY8.out w13 v8_13).c3
  have d13_0 := (HY9.out w13 v9_13).c0
  have d13_1 := (HY9.out w13 v9_13).c1
  have d13_2 := (HY9.out w13 v9_13).c2
  have d13_3 := (HY9.out w13 v9_13).c3
  have c := PSX.out Xp HK.out.1 w7 w8 w13 _ _ _ _ _ _ _ _ _ _ Hf7.out Hou8.out Hor8.out d7 v7_13 v8_13
  go_wp2_with fail
  refine c.mono ?_
  rintro e w14 ⟨rfl, hb14⟩
  clear c c13_0 c13_1 c13_2 c13_3 d13_0 d13_1 d13_2 d13_3
  have u14 : Below w13.heap.size w13 w14 := hb14
  have q14 := q13.trans (u14.mono q13.size)
  have d14 := DW.out _ q14
  have v4_14 := v4_13.trans (u14.mono v4_13.size)
  have v5_14 := v5_13.trans (u14.mono v5_13.size)
  have v6_14 := v6_13.trans (u14.mono v6_13.size)
  have v7_14 := v7_13.trans (u14.mono v7_13.size)
  have v8_14 := v8_13.trans (u14.mono v8_13.size)
  have v9_14 := v9_13.trans (u14.mono v9_13.size)
  have v10_14 := v10_13.trans (u14.mono v10_13.size)
  have v11_14 := v11_13.trans (u14.mono v11_13.size)
  have v12_14 := v12_13.trans (u14.mono v12_13.size)
  have v13_14 := v13_13.trans (u14.mono v13_13.size)
  have v14_14 := Below.refl w14.heap.size w14
  have x14_0 := (HY10.out w14 v10_14).c0
  have x14_1 := (HY10.out w14 v10_14).c1
  have x14_2 := (HY10.out w14 v10_14).c2
  have x14_3 := (HY10.out w14 v10_14).c3
  have y14_0 := (HY11.out w14 v11_14).c0
  have y14_1 := (HY11.out w14 v11_14).c1
  have y14_2 := (HY11.out w14 v11_14).c2
  have y14_3 := (HY11.out w14 v11_14).c3
  have c := PSX.out Xs HK.out.2.1 w9 w10 w14 _ _ _ _ _ _ _ _ _ _ Hf9.out Hou10.out Hor10.out d9 v9_14 v10_14
  go_wp2_with fail
  refine c.mono ?_
  rintro e w15 ⟨rfl, hb15⟩
  clear c x14_0 x14_1 x14_2 x14_3 y14_0 y14_1 y14_2 y14_3
  have u15 : Below w14.heap.size w14 w15 := hb15
  have q15 := q14.trans (u15.mono q14.size)
  have d15 := DW.out _ q15
  have v4_15 := v4_14.trans (u15.mono v4_14.size)
  have v5_15 := v5_14.trans (u15.mono v5_14.size)
  have v6_15 := v6_14.trans (u15.mono v6_14.size)
  have v7_15 := v7_14.trans (u15.mono v7_14.size)
  have v8_15 := v8_14.trans (u15.mono v8_14.size)
  have v9_15 := v9_14.trans (u15.mono v9_14.size)
  have v10_15 := v10_14.trans (u15.mono v10_14.size)
  have v11_15 := v11_14.trans (u15.mono v11_14.size)
  have v12_15 := v12_14.trans (u15.mono v12_14.size)
  have v13_15 := v13_14.trans (u15.mono v13_14.size)
  have v14_15 := v14_14.trans (u15.mono v14_14.size)
  have v15_15 := Below.refl w15.heap.size w15
  have p15_0 := (HY12.out w15 v12_15).c0
  have p15_1 := (HY12.out w15 v12_15).c1
  have p15_2 := (HY12.out w15 v12_15).c2
  have p15_3 := (HY12.out w15 v12_15).c3
  have q15_0 := (HY13.out w15 v13_15).c0
  have q15_1 := (HY13.out w15 v13_15).c1
  have q15_2 := (HY13.out w15 v13_15).c2
  have q15_3 := (HY13.out w15 v13_15).c3
  have c := PSX.out Xd HK.out.2.2.1 w11 w12 w15 _ _ _ _ _ _ _ _ _ _ Hf11.out Hou12.out Hor12.out d11 v11_15 v12_15
  go_wp2_with fail
  refine c.mono ?_
  rintro e w16 ⟨rfl, hb16⟩
  clear c p15_0 p15_1 p15_2 p15_3 q15_0 q15_1 q15_2 q15_3
  have u16 : Below w15.heap.size w15 w16 := hb16
  have q16 := q15.trans (u16.mono q15.size)
  have d16 := DW.out _ q16
  have v4_16 := v4_15.trans (u16.mono v4_15.size)
  have v5_16 := v5_15.trans (u16.mono v5_15.size)
  have v6_16 := v6_15.trans (u16.mono v6_15.size)
  have v7_16 := v7_15.trans (u16.mono v7_15.size)
  have v8_16 := v8_15.trans (u16.mono v8_15.size)
  have v9_16 := v9_15.trans (u16.mono v9_15.size)
  have v10_16 := v10_15.trans (u16.mono v10_15.size)
  have v11_16 := v11_15.trans (u16.mono v11_15.size)
  have v12_16 := v12_15.trans (u16.mono v12_15.size)
  have v13_16 := v13_15.trans (u16.mono v13_15.size)
  have v14_16 := v14_15.trans (u16.mono v14_15.size)
  have v15_16 := v15_15.trans (u16.mono v15_15.size)
  have v16_16 := Below.refl w16.heap.size w16
  go_upto_region 13 with fail
  have kF : ∀ W, Below w16.heap.size w16 W → W.cell? ⟨w4.heap.size, 0, none⟩ = some (.string t.name) ∧ W.cell? ⟨w4.heap.size, 1, none⟩ = some (.int .i64 t.most) ∧ W.cell? ⟨w4.heap.size, 2, none⟩ = some (.slice Ao t.us.length co) ∧ W.cell? ⟨w4.heap.size, 3, none⟩ = some (.slice Aro t.rows.length cro) ∧ W.cell? ⟨w.heap.size, 0, none⟩ = some (.string t.name) ∧ W.cell? ⟨w.heap.size, 1, none⟩ = some (.int .i64 t.most) ∧ W.cell? ⟨w.heap.size, 2, none⟩ = some (.slice Au t.us.length cu) ∧ W.cell? ⟨w.heap.size, 3, none⟩ = some (.slice Ar t.rows.length cr) ∧ W.cell? ⟨w.heap.size + 1, 0, none⟩ = some (.string o.name) ∧ W.cell? ⟨w.heap.size + 1, 1, none⟩ = some (.int .i64 o.most) ∧ W.cell? ⟨w.heap.size + 1, 2, none⟩ = some (.slice Bu o.us.length du) ∧ W.cell? ⟨w.heap.size + 1, 3, none⟩ = some (.slice Br o.rows.length dr) := fun W q => by
    have f := HY5.out W (v5_16.trans (q.mono v5_16.size))
    have g := KT.out W (q16.trans (q.mono q16.size))
    have h := KO.out W (q16.trans (q.mono q16.size))
    exact ⟨f.c0, f.c1, f.c2, f.c3, g.c0, g.c1, g.c2, g.c3, h.c0, h.c1, h.c2, h.c3⟩
  have k1 := fun W (q : Below w16.heap.size w16 W) => PC.out w4 W _ _ _ _ _ Hou.out Horr.out d4 (v4_16.trans (q.mono v4_16.size))
  have k2 := fun W (q : Below w16.heap.size w16 W) => PCr.out W (d16.trans (q.mono d16.size))
  have k3 := fun W (q : Below w16.heap.size w16 W) => PSO.out w4 W _ _ _ _ _ Hou.out Horr.out d4 (v4_16.trans (q.mono v4_16.size))
  have k4 := fun W (q : Below w16.heap.size w16 W) => PSOr.out W (d16.trans (q.mono d16.size))
  have k5 := fun W (q : Below w16.heap.size w16 W) => PST.out w4 W _ _ _ _ _ Hou.out Horr.out d4 (v4_16.trans (q.mono v4_16.size))
  have KF := Lib.hid kF
  have K1 := Lib.hid k1
  have K2 := Lib.hid k2
  have K3 := Lib.hid k3
  have K4 := Lib.hid k4
  have K5 := Lib.hid k5
  clear kF k1 k2 k3 k4 k5
  go_cut [27] (DoesCut w16)
  case first =>
    obtain ⟨x0, x1, x2, x3, x4, x5, x6, x7, x8, x9, xa, xb⟩ := KF.out w16 (Below.refl _ _)
    go_region_held3 (fun W => W.cell? ⟨w4.heap.size, 0, none⟩ = some (.string t.name) ∧ W.cell? ⟨w4.heap.size, 1, none⟩ = some (.int .i64 t.most) ∧ W.cell? ⟨w4.heap.size, 2, none⟩ = some (.slice Ao t.us.length co) ∧ W.cell? ⟨w4.heap.size, 3, none⟩ = some (.slice Aro t.rows.length cro) ∧ W.cell? ⟨w.heap.size, 0, none⟩ = some (.string t.name) ∧ W.cell? ⟨w.heap.size, 1, none⟩ = some (.int .i64 t.most) ∧ W.cell? ⟨w.heap.size, 2, none⟩ = some (.slice Au t.us.length cu) ∧ W.cell? ⟨w.heap.size, 3, none⟩ = some (.slice Ar t.rows.length cr) ∧ W.cell? ⟨w.heap.size + 1, 0, none⟩ = some (.string o.name) ∧ W.cell? ⟨w.heap.size + 1, 1, none⟩ = some (.int .i64 o.most) ∧ W.cell? ⟨w.heap.size + 1, 2, none⟩ = some (.slice Bu o.us.length du) ∧ W.cell? ⟨w.heap.size + 1, 3, none⟩ = some (.slice Br o.rows.length dr))
      (exact KF.out _ (by repeat (first | assumption | exact Below.refl _ _ | refine Below.drew ?_ | refine Below.alloc ?_ (by first | assumption | exact Nat.le_refl _ | omega | (simp; done) | (simp; omega)) _ | refine Below.setCell ?_ (by first | assumption | exact Nat.le_refl _ | omega | (simp; done) | (simp; omega)) _)))
      (first
        | (go_at_call 17; (with_reducible refine (K1.out _ ?_).mono ?_); exact (by repeat (first | assumption | exact Below.refl _ _ | refine Below.drew ?_ | refine Below.alloc ?_ (by first | assumption | exact Nat.le_refl _ | omega | (simp; done) | (simp; omega)) _ | refine Below.setCell ?_ (by first | assumption | exact Nat.le_refl _ | omega | (simp; done) | (simp; omega)) _)); rintro e wa ⟨rfl, hba⟩; have hqa : Below w16.heap.size w16 wa := Below.trans (b := w16.drew) (by repeat (first | assumption | exact Below.refl _ _ | refine Below.drew ?_ | refine Below.alloc ?_ (by first | assumption | exact Nat.le_refl _ | omega | (simp; done) | (simp; omega)) _ | refine Below.setCell ?_ (by first | assumption | exact Nat.le_refl _ | omega | (simp; done) | (simp; omega)) _)) (hba.mono (by first | exact Nat.le_refl _ | (simp; done) | (simp; omega))); have hsa := hqa.size)
        | (go_at_call 18; (with_reducible refine (K2.out _ ?_).mono ?_); exact (by repeat (first | assumption | exact Below.refl _ _ | refine Below.drew ?_ | refine Below.alloc ?_ (by first | assumption | exact Nat.le_refl _ | omega | (simp; done) | (simp; omega)) _ | refine Below.setCell ?_ (by first | assumption | exact Nat.le_refl _ | omega | (simp; done) | (simp; omega)) _)); rintro e wb ⟨rfl, hbb⟩; have hqb : Below w16.heap.size w16 wb := hqa.trans (hbb.mono hsa); have hsb := hqb.size)
        | (go_at_call 19; (with_reducible refine (K3.out _ ?_).mono ?_); exact (by repeat (first | assumption | exact Below.refl _ _ | refine Below.drew ?_ | refine Below.alloc ?_ (by first | assumption | exact Nat.le_refl _ | omega | (simp; done) | (simp; omega)) _ | refine Below.setCell ?_ (by first | assumption | exact Nat.le_refl _ | omega | (simp; done) | (simp; omega)) _)); rintro e wc ⟨rfl, hbc⟩; have hqc : Below w16.heap.size w16 wc := hqb.trans (hbc.mono hsb); have hsc := hqc.size)
        | (go_at_call 16; (with_reducible refine (K4.out _ ?_).mono ?_); exact (by repeat (first | assumption | exact Below.refl _ _ | refine Below.drew ?_ | refine Below.alloc ?_ (by first | assumption | exact Nat.le_refl _ | omega | (simp; done) | (simp; omega)) _ | refine Below.setCell ?_ (by first | assumption | exact Nat.le_refl _ | omega | (simp; done) | (simp; omega)) _)); rintro e wd ⟨rfl, hbd⟩; have hqd : Below w16.heap.size w16 wd := hqc.trans (hbd.mono hsc); have hsd := hqd.size)
        | (go_at_call 19; (with_reducible refine (K5.out _ ?_).mono ?_); exact (by repeat (first | assumption | exact Below.refl _ _ | refine Below.drew ?_ | refine Below.alloc ?_ (by first | assumption | exact Nat.le_refl _ | omega | (simp; done) | (simp; omega)) _ | refine Below.setCell ?_ (by first | assumption | exact Nat.le_refl _ | omega | (simp; done) | (simp; omega)) _)); rintro e we ⟨rfl, hbe⟩; have hqe : Below w16.heap.size w16 we := hqd.trans (hbe.mono hsd)))
    all_goals go_wp2_with fail
    all_goals go_meet
    all_goals exact ⟨rfl, (by repeat (first | assumption | exact Below.refl _ _ | refine Below.drew ?_ | refine Below.alloc ?_ (by first | assumption | exact Nat.le_refl _ | omega | (simp; done) | (simp; omega)) _ | refine Below.setCell ?_ (by first | assumption | exact Nat.le_refl _ | omega | (simp; done) | (simp; omega)) _))⟩
  case rest =>
  obtain ⟨rfl, u17⟩ := hcut
  obtain ⟨w17, hw17⟩ : ∃ W, W = wc := ⟨_, rfl⟩
  rw [← hw17] at u17 ⊢
  clear hw17 KF K1 K2 K3 K4 K5
  have q17 := q16.trans (u17.mono q16.size)
  have d17 := DW.out _ q17
  have v4_17 := v4_16.trans (u17.mono v4_16.size)
  have v5_17 := v5_16.trans (u17.mono v5_16.size)
  have v6_17 := v6_16.trans (u17.mono v6_16.size)
  have v7_17 := v7_16.trans (u17.mono v7_16.size)
  have v8_17 := v8_16.trans (u17.mono v8_16.size)
  have v9_17 := v9_16.trans (u17.mono v9_16.size)
  have v10_17 := v10_16.trans (u17.mono v10_16.size)
  have v11_17 := v11_16.trans (u17.mono v11_16.size)
  have v12_17 := v12_16.trans (u17.mono v12_16.size)
  have v13_17 := v13_16.trans (u17.mono v13_16.size)
  have v14_17 := v14_16.trans (u17.mono v14_16.size)
  have v15_17 := v15_16.trans (u17.mono v15_16.size)
  have v16_17 := v16_16.trans (u17.mono v16_16.size)
  have v17_17 := Below.refl w17.heap.size w17
  have own17_0 := (HY5.out w17 v5_17).c0
  have own17_1 := (HY5.out w17 v5_17).c1
  have own17_2 := (HY5.out w17 v5_17).c2
  have own17_3 := (HY5.out w17 v5_17).c3
  have c := PZ.out w4 w17 _ _ _ _ _ Hou.out Horr.out d4 v4_17
  go_wp2_with fail
  refine c.mono ?_
  rintro e w18 ⟨Az, cz, gz, rfl, fz, hb18⟩
  clear c own17_0 own17_1 own17_2 own17_3
  have u18 : Below w17.heap.size w17 w18 := hb18
  have q18 := q17.trans (u18.mono q17.size)
  have d18 := DW.out _ q18
  have v4_18 := v4_17.trans (u18.mono v4_17.size)
  have v5_18 := v5_17.trans (u18.mono v5_17.size)
  have v6_18 := v6_17.trans (u18.mono v6_17.size)
  have v7_18 := v7_17.trans (u18.mono v7_17.size)
  have v8_18 := v8_17.trans (u18.mono v8_17.size)
  have v9_18 := v9_17.trans (u18.mono v9_17.size)
  have v10_18 := v10_17.trans (u18.mono v10_17.size)
  have v11_18 := v11_17.trans (u18.mono v11_17.size)
  have v12_18 := v12_17.trans (u18.mono v12_17.size)
  have v13_18 := v13_17.trans (u18.mono v13_17.size)
  have v14_18 := v14_17.trans (u18.mono v14_17.size)
  have v15_18 := v15_17.trans (u18.mono v15_17.size)
  have v16_18 := v16_17.trans (u18.mono v16_17.size)
  have v17_18 := v17_17.trans (u18.mono v17_17.size)
  have v18_18 := Below.refl w18.heap.size w18
  have Hfz := Lib.hid fz
  clear fz
  have n180 := fun (v0 v1 v2 v3 : Value) (T : TypeId) => (Four.new w18 v0 v1 v2 v3 T).c0
  have n181 := fun (v0 v1 v2 v3 : Value) (T : TypeId) => (Four.new w18 v0 v1 v2 v3 T).c1
  have n182 := fun (v0 v1 v2 v3 : Value) (T : TypeId) => (Four.new w18 v0 v1 v2 v3 T).c2
  have n183 := fun (v0 v1 v2 v3 : Value) (T : TypeId) => (Four.new w18 v0 v1 v2 v3 T).c3
  have t18_0 := fun (o : Obj) => (KT.out (w18.alloc o) (q18.alloc q18.size o)).c0
  have t18_1 := fun (o : Obj) => (KT.out (w18.alloc o) (q18.alloc q18.size o)).c1
  have t18_2 := fun (o : Obj) => (KT.out (w18.alloc o) (q18.alloc q18.size o)).c2
  have t18_3 := fun (o : Obj) => (KT.out (w18.alloc o) (q18.alloc q18.size o)).c3
  have c := fun (o : Obj) => PZT.out w18 (w18.alloc o) _ _ _ _ Hfz.out d18 (v18_18.alloc v18_18.size o)
  go_wp2_with fail
  refine (c _).mono ?_
  rintro e w19 ⟨rfl, hb19⟩
  clear c n180 n181 n182 n183 t18_0 t18_1 t18_2 t18_3
  have u19 : Below w18.heap.size w18 w19 := ((Below.refl _ _).alloc (Nat.le_refl _) _).trans (hb19.mono (by simp))
  have q19 := q18.trans (u19.mono q18.size)
  have d19 := DW.out _ q19
  have y19 := four_new hb19
  have HY19 := Lib.hid (fun (W : World) (q : Below w19.heap.size w19 W) => y19.below q (four_lt y19))
  clear y19
  have v4_19 := v4_18.trans (u19.mono v4_18.size)
  have v5_19 := v5_18.trans (u19.mono v5_18.size)
  have v6_19 := v6_18.trans (u19.mono v6_18.size)
  have v7_19 := v7_18.trans (u19.mono v7_18.size)
  have v8_19 := v8_18.trans (u19.mono v8_18.size)
  have v9_19 := v9_18.trans (u19.mono v9_18.size)
  have v10_19 := v10_18.trans (u19.mono v10_18.size)
  have v11_19 := v11_18.trans (u19.mono v11_18.size)
  have v12_19 := v12_18.trans (u19.mono v12_18.size)
  have v13_19 := v13_18.trans (u19.mono v13_18.size)
  have v14_19 := v14_18.trans (u19.mono v14_18.size)
  have v15_19 := v15_18.trans (u19.mono v15_18.size)
  have v16_19 := v16_18.trans (u19.mono v16_18.size)
  have v17_19 := v17_18.trans (u19.mono v17_18.size)
  have v18_19 := v18_18.trans (u19.mono v18_18.size)
  have v19_19 := Below.refl w19.heap.size w19
  go_upto_region 17 with fail
  obtain ⟨dz, sz, zz⟩ := new_shape Hfz.out HK.out.2.2.2.1
  obtain ⟨dc, sc, zc⟩ := fresh_shape Hf7.out HK.out.1
  obtain ⟨dx, sx, zx⟩ := fresh_shape Hf9.out HK.out.2.1
  obtain ⟨dp, sp, zp⟩ := fresh_shape Hf11.out HK.out.2.2.1
  have hux := HK.out
  have bzu := (HK.out.2.2.2.1).ul
  have bzr := (HK.out.2.2.2.1).rl
  have bcu := (HK.out.1).ul
  have bcr := (HK.out.1).rl
  have bxu := (HK.out.2.1).ul
  have bxr := (HK.out.2.1).rl
  have bpu := (HK.out.2.2.1).ul
  have bpr := (HK.out.2.2.1).rl
  have zsh := sz.below v18_19
  have cs := spoil27_any t.name t.most Az t.us.length cz (some ⟨gz, 0, none⟩) t.rows.length t.rows.length dz w19 zsh v18_19.size (by omega) (by omega) zz
  have HSZ := Lib.hid (And.intro sc (And.intro zc (And.intro sx (And.intro zx (And.intro sp zp)))))
  clear zsh sz zz sc zc sx zx sp zp hux
  obtain ⟨b0, b1, b2, b3, _⟩ := HY19.out w19 v19_19
  go_wp2_with fail
  refine cs.mono ?_
  rintro e w20 ⟨rfl, apz⟩
  clear cs b0 b1 b2 b3
  have bez : Below w17.heap.size w19 w20 := apz.below v17_19.size
  have v4_20 := v4_19.trans (bez.mono v4_17.size)
  have v5_20 := v5_19.trans (bez.mono v5_17.size)
  have v6_20 := v6_19.trans (bez.mono v6_17.size)
  have v7_20 := v7_19.trans (bez.mono v7_17.size)
  have v8_20 := v8_19.trans (bez.mono v8_17.size)
  have v9_20 := v9_19.trans (bez.mono v9_17.size)
  have v10_20 := v10_19.trans (bez.mono v10_17.size)
  have v11_20 := v11_19.trans (bez.mono v11_17.size)
  have v12_20 := v12_19.trans (bez.mono v12_17.size)
  have v13_20 := v13_19.trans (bez.mono v13_17.size)
  have v14_20 := v14_19.trans (bez.mono v14_17.size)
  have v15_20 := v15_19.trans (bez.mono v15_17.size)
  have v16_20 := v16_19.trans (bez.mono v16_17.size)
  have v17_20 := v17_19.trans (bez.mono v17_17.size)
  have q20 := q19.trans (bez.mono q17.size)
  obtain ⟨sc, zc, sx, zx, sp, zp⟩ := HSZ.out
  have csh := sc.below v7_20
  have xsh := sx.below v9_20
  have psh := sp.below v11_20
  have cs := spoil27_any Xp.name Xp.most Au7 Xp.us.length cu7 Ar7 Xp.rows.length cr7 dc w20 csh v7_20.size (by omega) (by omega) zc
  have HX := Lib.hid (And.intro xsh psh)
  clear csh xsh psh sc sx sp
  have bx8 := HY8.out w20 v8_20
  have bx10 := HY10.out w20 v10_20
  have bx12 := HY12.out w20 v12_20
  have HB8 := Lib.hid (And.intro bx10 bx12)
  obtain ⟨b0, b1, b2, b3, _⟩ := bx8
  clear bx10 bx12
  have HZZ := Lib.hid (And.intro zx zp)
  clear zc zx zp
  go_wp2_with fail
  refine cs.mono ?_
  rintro e w21 ⟨rfl, apc⟩
  clear cs b0 b1 b2 b3
  have l67 : w6.heap.size ≤ w20.heap.size := v6_20.size
  have l7 := v7_8.size
  have l8 := v8_9.size
  have l9 := v9_10.size
  have l10 := v10_11.size
  have l11 := v11_20.size
  have l6 := v6_7.size
  have bec : Below (w6.heap.size + 1) w20 w21 := apc.belowS (pair_lt (HY7.out w20 v7_20))
  have v4_21 := v4_20.trans (bec.mono (by have := v4_6.size; omega))
  have v5_21 := v5_20.trans (bec.mono (by have := v5_6.size; omega))
  have v6_21 := v6_20.trans (bec.mono (by have := v6_6.size; omega))
  have q21 := q20.trans (bec.mono (by have := q6.size; omega))
  have xsh := HX.out.1.apart apc (.inr (by simp; omega)) v9_20.size
  have psh := HX.out.2.apart apc (.inr (by simp; omega)) v11_20.size
  have bx10 := apc.four HB8.out.1 (.inr (by omega))
  have bx12 := apc.four HB8.out.2 (.inr (by omega))
  have cs := spoil27_any Xs.name Xs.most Au9 Xs.us.length cu9 Ar9 Xs.rows.length cr9 dx w21 xsh (by have := apc.size; have := v9_20.size; omega) (by omega) (by omega) HZZ.out.1
  have HX2 := Lib.hid psh
  have HB12 := Lib.hid bx12
  obtain ⟨b0, b1, b2, b3, _⟩ := bx10
  clear xsh psh bx12
  go_wp2_with fail
  refine cs.mono ?_
  rintro e w22 ⟨rfl, apx⟩
  clear cs b0 b1 b2 b3
  have l21 := apc.size
  have bex : Below (w8.heap.size + 1) w21 w22 := apx.belowS (Nat.lt_of_lt_of_le (four_lt (HY9.out w20 v9_20)) apc.size)
  have v4_22 := v4_21.trans (bex.mono (by have := v4_6.size; omega))
  have v5_22 := v5_21.trans (bex.mono (by have := v5_6.size; omega))
  have v6_22 := v6_21.trans (bex.mono (by have := v6_6.size; omega))
  have q22 := q21.trans (bex.mono (by have := q6.size; omega))
  have psh := HX2.out.apart apx (.inr (by simp; omega)) (by omega)
  have bx12 := apx.four HB12.out (.inr (by omega))
  have cs := spoil27_any Xd.name Xd.most Au11 Xd.us.length cu11 Ar11 Xd.rows.length cr11 dp w22 psh (by have := apx.size; omega) (by omega) (by omega) HZZ.out.2
  obtain ⟨b0, b1, b2, b3, _⟩ := bx12
  clear psh
  go_wp2_with fail
  refine cs.mono ?_
  rintro e w23 ⟨rfl, app⟩
  clear cs b0 b1 b2 b3
  have l22 := apx.size
  have bep : Below (w10.heap.size + 1) w22 w23 := app.belowS (Nat.lt_of_lt_of_le (four_lt (HY11.out w20 v11_20)) (Nat.le_trans apc.size apx.size))
  have v4_23 := v4_22.trans (bep.mono (by have := v4_6.size; omega))
  have v5_23 := v5_22.trans (bep.mono (by have := v5_6.size; omega))
  have v6_23 := v6_22.trans (bep.mono (by have := v6_6.size; omega))
  have q23 := q22.trans (bep.mono (by have := q6.size; omega))
  have dat := own_data Ho5.out
  have hlw : y.data.length ≤ 1000000 := HK.out.2.2.2.2.len
  have l4 := v4_5.size
  have l5 := v5_23.size
  have dat23 : DataAt w23 (w4.heap.size + 1) w5.heap.size A5 y.data.length := by
    rcases dat with h | ⟨gd, ds, e, h0, h1, h2, h3⟩
    · exact .inl h
    · exact .inr ⟨gd, ds, e, by simpa using h0, h1, (v5_23.block gd h1).trans h2, h3⟩
  have HDT := Lib.hid dat23
  have bo := HY5.out w23 v5_23
  have bg := HY6.out w23 v6_23
  have kG : ∀ W, Apart (w4.heap.size + 1) w5.heap.size w23 W → Pair2 W w5.heap.size (.string y.id) (.slice A5 y.data.length c5) ∧ Four W w4.heap.size (.string t.name) (.int .i64 t.most) (.slice Ao t.us.length co) (.slice Aro t.rows.length cro) := fun W ap =>
    ⟨ap.two bg (.inr (Nat.le_refl _)), ap.four bo (.inl (by omega))⟩
  have KG := Lib.hid kG
  clear dat dat23 bo bg kG
  obtain ⟨n, hn⟩ : ∃ n, y.data.length = n := ⟨_, rfl⟩
  rw [hn] at KG HDT hlw
  have HN := Lib.hid hn
  obtain ⟨p0, p1⟩ := (KG.out w23 Apart.refl).1
  clear hn
  go_upto_region 22 with fail
  go_loopw [29] (fun i wr => ∃ k : Nat, k ≤ n ∧ i = .int .i64 k ∧ DataAt wr (w4.heap.size + 1) w5.heap.size A5 n ∧ Apart (w4.heap.size + 1) w5.heap.size w23 wr) (fun i _ => n - (intOf i).toNat)
  case atStart => exact ⟨0, Nat.zero_le _, rfl, HDT.out, Apart.refl⟩
  case round =>
    clear p0 p1
    obtain ⟨k, hk, rfl, dt, ap⟩ := hrel
    obtain ⟨⟨p0, p1⟩, bo⟩ := KG.out wr ap
    by_cases hlt : k < n
    · have hkI : (k : Int) < n := by omega
      obtain ⟨gd, ds, rfl, d0, d1, d2, d3⟩ := dt.resolve_left (by omega)
      obtain ⟨⟨v4, e4⟩, f4⟩ := blk_cell (i := k * 5 + 4) d2 (by omega)
      have nx : DataAt (wr.setCell ⟨gd, k * 5 + 4, none⟩ (.int .i64 (-7))) (w4.heap.size + 1) w5.heap.size (some ⟨gd, 0, none⟩) n := dt.set
      have na : Apart (w4.heap.size + 1) w5.heap.size w23 (wr.setCell ⟨gd, k * 5 + 4, none⟩ (.int .i64 (-7))) := ap.trans (Apart.set gd _ _ d0 d1)
      have HNX := Lib.hid (And.intro nx na)
      clear nx na d2 d3 dt bo
      go_wp2
      go_roundw
      case rel => exact ⟨k + 1, hlt, by go_num, HNX.out.1, HNX.out.2⟩
      case measure => simp [intOf]; omega
    · obtain rfl : k = n := by omega
      have hkd : decide (k < k) = false := by simp
      have bea : Below (w4.heap.size + 1) w23 wr := ap.below (four_lt (HY5.out w23 v5_23))
      have v4_24 := v4_23.trans (bea.mono (Nat.le_succ _))
      have q24 := q23.trans (bea.mono (by have := q4.size; omega))
      obtain ⟨x0, x1, x2, x3, _⟩ := bo
      obtain ⟨y0, y1, y2, y3, _⟩ := KT.out wr q24
      have cs := POT.out w4 wr _ _ _ _ _ Hou.out Horr.out d4 v4_24
      clear dt ap
      go_wp2_with fail
      refine cs.mono ?_
      rintro e w25 ⟨rfl, hb25⟩
      go_wp2
      go_ret
      exact ⟨rfl, DW.out _ (q24.trans (hb25.mono q24.size))⟩
end Go.Proofs.YtcgioepbooafcaaGreatDoor
