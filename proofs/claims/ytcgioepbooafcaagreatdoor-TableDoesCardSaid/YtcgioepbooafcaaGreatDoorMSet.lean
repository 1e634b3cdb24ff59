/- Rows that an insertion, a deletion, a store leave. Conditions: none. table.Drop. Conditions: lengths within the model's; Go's two tables of utf8. table.Set. Conditions: lengths within the model's; Go's two tables of utf8. -/
import Derived.Test.YtcgioepbooafcaaGreatDoorMGet
namespace Go.Proofs.YtcgioepbooafcaaGreatDoor
section
open Go.RowKit
def KeptAt (w : World) (base : Nat) (vs : List Value) (j : Nat) (r : RecC) : Prop := vs[j * 2]? = some (.string r.id) ∧ ∃ A c, vs[j * 2 + 1]? = some (.slice A r.data.length c) ∧ w.ownsRow base 47 5 (.slice A r.data.length c) r.data.length (cv r.data)
theorem kept_iff {w : World} {base : Nat} {vs : List Value} {rs : List RecC} : Kept w base vs rs rs.length ↔ ∀ j r, rs[j]? = some r → KeptAt w base vs j r := by
  constructor
  · intro h j r hj
    obtain ⟨hl, rfl⟩ := List.getElem?_eq_some_iff.1 hj
    exact h j hl hl
  · intro h j hj _
    exact h j _ (List.getElem?_eq_getElem hj)
theorem KeptAt.of {w : World} {base : Nat} {vs vs' : List Value} {j j' : Nat} {r : RecC} (h : KeptAt w base vs j r) (h0 : vs'[j' * 2]? = vs[j * 2]?) (h1 : vs'[j' * 2 + 1]? = vs[j * 2 + 1]?) : KeptAt w base vs' j' r := by
  obtain ⟨k0, A, c, k1, k2⟩ := h
  exact ⟨h0.trans k0, A, c, h1.trans k1, k2⟩
theorem Kept.one {w : World} {base : Nat} {vs : List Value} {rs : List RecC} (h : Kept w base vs rs rs.length) (hl : vs.length = rs.length * 2) : ∀ v ∈ vs, v.oneCell' = true := by
  intro v hv
  obtain ⟨i, hi, rfl⟩ := List.getElem_of_mem hv
  obtain ⟨h0, A, c, h1, _⟩ := h (i / 2) (by omega) (by omega)
  rcases Nat.mod_two_eq_zero_or_one i with e | e
  · have : i = i / 2 * 2 := by omega
    rw [← this, List.getElem?_eq_getElem hi, Option.some.injEq] at h0
    rw [h0]; rfl
  · have : i = i / 2 * 2 + 1 := by omega
    rw [← this, List.getElem?_eq_getElem hi, Option.some.injEq] at h1
    rw [h1]; rfl
theorem get_of_take {L vs : List Value} {m j : Nat} (h : L.take m = vs) (hj : j < m) : L[j]? = vs[j]? := by
  rw [← h, List.getElem?_take, if_pos hj]
theorem insV_lt {vs : List Value} {i n j : Nat} {a b : Value} (hl : vs.length = n * 2) (hi : i ≤ n) (hj : j < i * 2) : (insV vs i a b)[j]? = vs[j]? := by
  unfold insV
  rw [List.append_assoc, List.getElem?_append_left (by rw [List.length_take]; omega), List.getElem?_take, if_pos hj]
theorem insV_at {vs : List Value} {i n : Nat} {a b : Value} (hl : vs.length = n * 2) (hi : i ≤ n) : (insV vs i a b)[i * 2]? = some a ∧ (insV vs i a b)[i * 2 + 1]? = some b := by
  have h1 : (vs.take (i * 2)).length = i * 2 := by rw [List.length_take]; omega
  unfold insV
  rw [List.append_assoc]
  constructor
  · rw [List.getElem?_append_right (by omega), h1, Nat.sub_self]
    rfl
  · rw [List.getElem?_append_right (by omega), h1, show i * 2 + 1 - i * 2 = 1 by omega]
    rfl
theorem insV_gt {vs : List Value} {i n j : Nat} {a b : Value} (hl : vs.length = n * 2) (hi : i ≤ n) (hj : (i + 1) * 2 ≤ j) : (insV vs i a b)[j]? = vs[j - 2]? := by
  have h1 : (vs.take (i * 2) ++ [a, b]).length = (i + 1) * 2 := by rw [List.length_append, List.length_take]; simp; omega
  unfold insV
  rw [List.getElem?_append_right (by omega), h1, List.getElem?_drop]
  congr 1
  omega
theorem Kept.ins {w : World} {base : Nat} {vs L : List Value} {rs : List RecC} {r : RecC} {A : Option Addr} {c i : Nat} (h : Kept w base vs rs rs.length) (hl : vs.length = rs.length * 2) (hi : i ≤ rs.length)
    (ho : w.ownsRow base 47 5 (.slice A r.data.length c) r.data.length (cv r.data)) (hL : L.take ((rs.length + 1) * 2) = insV vs i (.string r.id) (.slice A r.data.length c)) :
    Kept w base L (rs.take i ++ r :: rs.drop i) (rs.take i ++ r :: rs.drop i).length := by
  have hk := kept_iff.1 h
  have h1 : (rs.take i).length = i := by rw [List.length_take]; omega
  refine kept_iff.2 fun j x hj => ?_
  have hjl : j < rs.length + 1 := by
    have := (List.getElem?_eq_some_iff.1 hj).1
    rw [List.length_append, List.length_cons, h1, List.length_drop] at this
    omega
  have g0 := get_of_take hL (j := j * 2) (by omega)
  have g1 := get_of_take hL (j := j * 2 + 1) (by omega)
  by_cases hlt : j < i
  · rw [List.getElem?_append_left (by omega), List.getElem?_take, if_pos hlt] at hj
    exact (hk j x hj).of (g0.trans (insV_lt hl hi (by omega))) (g1.trans (insV_lt hl hi (by omega)))
  · by_cases e : j = i
    · subst e
      rw [List.getElem?_append_right (by omega), h1, Nat.sub_self, List.getElem?_cons_zero, Option.some.injEq] at hj
      subst hj
      exact ⟨g0.trans (insV_at hl hi).1, A, c, g1.trans (insV_at hl hi).2, ho⟩
    · obtain ⟨q, rfl⟩ : ∃ q, j = q + 1 := ⟨j - 1, by omega⟩
      rw [List.getElem?_append_right (by omega), h1, show q + 1 - i = (q - i) + 1 by omega, List.getElem?_cons_succ, List.getElem?_drop, show i + (q - i) = q by omega] at hj
      refine (hk q x hj).of (g0.trans ((insV_gt hl hi (by omega)).trans (by congr 1; omega))) (g1.trans ((insV_gt hl hi (by omega)).trans (by congr 1; omega)))
theorem Kept.del {w : World} {base : Nat} {vs L : List Value} {rs : List RecC} {i : Nat} (h : Kept w base vs rs rs.length) (hl : vs.length = rs.length * 2) (hi : i < rs.length) (hL : L.take ((rs.length - 1) * 2) = delV vs i) :
    Kept w base L (rs.take i ++ rs.drop (i + 1)) (rs.take i ++ rs.drop (i + 1)).length := by
  have hk := kept_iff.1 h
  have h1 : (rs.take i).length = i := by rw [List.length_take]; omega
  have h2 : (vs.take (i * 2)).length = i * 2 := by rw [List.length_take]; omega
  refine kept_iff.2 fun j x hj => ?_
  have hjl : j < rs.length - 1 := by
    have := (List.getElem?_eq_some_iff.1 hj).1
    rw [List.length_append, h1, List.length_drop] at this
    omega
  have g0 := get_of_take hL (j := j * 2) (by omega)
  have g1 := get_of_take hL (j := j * 2 + 1) (by omega)
  unfold delV at g0 g1
  by_cases hlt : j < i
  · rw [List.getElem?_append_left (by omega), List.getElem?_take, if_pos hlt] at hj
    rw [List.getElem?_append_left (by omega), List.getElem?_take, if_pos (by omega)] at g0 g1
    exact (hk j x hj).of g0 g1
  · rw [List.getElem?_append_right (by omega), h1, List.getElem?_drop] at hj
    rw [List.getElem?_append_right (by omega), h2, List.getElem?_drop] at g0 g1
    exact (hk _ x hj).of (g0.trans (by congr 1; omega)) (g1.trans (by congr 1; omega))
theorem Kept.put {w : World} {base : Nat} {vs : List Value} {rs : List RecC} {r : RecC} {A : Option Addr} {c i : Nat} (h : Kept w base vs rs rs.length) (hl : rs.length * 2 ≤ vs.length) (hi : i < rs.length)
    (ho : w.ownsRow base 47 5 (.slice A r.data.length c) r.data.length (cv r.data)) :
    Kept w base ((vs.set (i * 2) (.string r.id)).set (i * 2 + 1) (.slice A r.data.length c)) (rs.set i r) (rs.set i r).length := by
  have hk := kept_iff.1 h
  refine kept_iff.2 fun j x hj => ?_
  rw [List.getElem?_set] at hj
  by_cases e : i = j
  · subst e
    rw [if_pos rfl, if_pos hi, Option.some.injEq] at hj
    subst hj
    refine ⟨?_, A, c, ?_, ho⟩
    · rw [List.getElem?_set, if_neg (by omega), List.getElem?_set, if_pos rfl, if_pos (by omega)]
    · rw [List.getElem?_set, if_pos rfl, if_pos (by simp; omega)]
  · rw [if_neg e] at hj
    refine (hk j x hj).of ?_ ?_
    · rw [List.getElem?_set, if_neg (by omega), List.getElem?_set, if_neg (by omega)]
    · rw [List.getElem?_set, if_neg (by omega), List.getElem?_set, if_neg (by omega)]
theorem Kept.grownT {w w' : World} {base b : Nat} {e' : TypeId} {vs : List Value} {rs : List RecC} {k : Nat} {L : Array Value} (h : Kept w base vs rs k) (hg : w.heap[b]? = some (.cells L e' (0, 0))) (he : 47 ≠ e') (hb : w.grownBy w' (some b)) : Kept w' base vs rs k := fun j hj hk => by
  obtain ⟨h0, A, c, h1, h2⟩ := h j hj hk
  exact ⟨h0, A, c, h1, h2.kept hb (own_ne_cells h2 hg he)⟩
/-- a table that is told: none, or one in new memory -/
def FreshT (w : World) (base : Nat) (x : TabC) (Au : Option Addr) (Ar : Option Addr) (cu cr : Nat) : Prop := (x.rows = [] ∧ x.us = []) ∨ ∃ g, Ar = some ⟨g, 0, none⟩ ∧ NewTab w base x Au cu g cr
def ResPost (x : TabC) (E : Int) (w : World) (e : Ending) (w' : World) : Prop := ∃ Au cu Ar cr, e = .returned (.tuple #[.agg #[.string x.name, .int .i64 x.most, .slice Au x.us.length cu, .slice Ar x.rows.length cr], .int .i64 E]) ∧ FreshT w' w.heap.size x Au Ar cu cr ∧ Below w.heap.size w w'
theorem FreshT.tabIn {w : World} {base : Nat} {x : TabC} {Au Ar : Option Addr} {cu cr : Nat} (h : FreshT w base x Au Ar cu cr) (hT : Tabs w) (hw : TabW x) : TabIn w w.heap.size x Au Ar := by
  rcases h with ⟨h1, h2⟩ | ⟨g, rfl, h⟩
  · exact ⟨.inl (by rw [h2]; rfl), .inl h1, Nat.le_refl _, hT, hw.wf, by have := hw.ul; omega, by have := hw.rl; omega⟩
  · exact h.tabIn hT hw
def zeroT : TabC := ⟨⟨#[]⟩, 0, [], []⟩
theorem res_zero (w W : World) (E : Int) (hb : Below w.heap.size w W) : ResPost zeroT E w (.returned (.tuple #[.agg #[.string ⟨#[]⟩, .int .i64 0, .slice none 0 0, .slice none 0 0], .int .i64 E])) W :=
  ⟨none, 0, none, 0, rfl, .inl ⟨rfl, rfl⟩, hb⟩
theorem four_zero {W : World} {b : Nat} (h : Four W b (.string ⟨#[]⟩) (.int .i64 0) (.slice none 0 0) (.slice none 0 0)) : Four ((((W.setCell ⟨b, 0, none⟩ (.string ⟨#[]⟩)).setCell ⟨b, 1, none⟩ (.int .i64 0)).setCell ⟨b, 2, none⟩ (.slice none 0 0)).setCell ⟨b, 3, none⟩ (.slice none 0 0)) b (.string ⟨#[]⟩) (.int .i64 0) (.slice none 0 0) (.slice none 0 0) :=
  (((h.set0 _).set1 _).set2 _).set3 _
theorem below_four {w W : World} {B b : Nat} (hb : Below B w W) (hB : B ≤ b) (v0 v1 v2 v3 : Value) : Below B w ((((W.setCell ⟨b, 0, none⟩ v0).setCell ⟨b, 1, none⟩ v1).setCell ⟨b, 2, none⟩ v2).setCell ⟨b, 3, none⟩ v3) :=
  (((hb.setCell hB _).setCell hB _).setCell hB _).setCell hB _
theorem grown_four (W : World) (b : Nat) (v0 v1 v2 v3 : Value) : W.grownBy ((((W.setCell ⟨b, 0, none⟩ v0).setCell ⟨b, 1, none⟩ v1).setCell ⟨b, 2, none⟩ v2).setCell ⟨b, 3, none⟩ v3) (some b) :=
  grown_trans (grown_trans (grown_trans (grown_set W b 0 v0) (grown_set _ b 1 v1)) (grown_set _ b 2 v2)) (grown_set _ b 3 v3)
theorem NewTab.grown {w w' : World} {base : Nat} {t : TabC} {Au : Option Addr} {cu g c b : Nat} (h : NewTab w base t Au cu g c) (hg : w.grownBy w' (some b)) (hb : b < base) : NewTab w' base t Au cu g c := by
  obtain ⟨hu, ⟨vs, hgc, hl, hk⟩, hge, hcap⟩ := h
  exact ⟨hu.kept hg (own_ne_base hu hb), ⟨vs, (hg.block g (Array.getElem?_eq_some_iff.1 hgc).1 (by simp; omega)).trans hgc, hl, hk.kept hg hb⟩, hge, hcap⟩
end
section
open Go.RowKit
def dropT (t : TabC) (id : ByteArray) : TabC × Int := if mayT t = true then (if hasB (idsL t.rows) id = true then ({ t with rows := t.rows.take (before (idsL t.rows) id) ++ t.rows.drop (before (idsL t.rows) id + 1) }, 0) else (zeroT, 270)) else (zeroT, 8)
set_option maxRecDepth 100000 in
set_option maxHeartbeats 8000000 in
theorem drop_t (t : TabC) (id : ByteArray) (Au : Option Addr) (cu : Nat) (Ar : Option Addr) (cr : Nat) (w : World) {B : Nat} (h : TabIn w B t Au Ar) (hw : TabW t) :
    Calls Tryz.prog 13 #[.agg #[.string t.name, .int .i64 t.most, .slice Au t.us.length cu, .slice Ar t.rows.length cr], .string id] w fun e w' => ResPost (dropT t id).1 (dropT t id).2 w e w' := by
  obtain ⟨W1, hW1⟩ : ∃ W1, W1 = (w.alloc (.cells #[.string t.name, .int .i64 t.most, .slice Au t.us.length cu, .slice Ar t.rows.length cr] 25)).alloc (.cells #[.string ⟨#[]⟩, .int .i64 0, .slice none 0 0, .slice none 0 0] 25) := ⟨_, rfl⟩
  have z1 : W1.heap.size = w.heap.size + 1 + 1 := by rw [hW1]; simp
  have b01 : Below w.heap.size w W1 := by rw [hW1]; exact ((Below.refl _ _).alloc (Nat.le_refl _) _).alloc (by simp) _
  have f1 : ∀ W, Below W1.heap.size W1 W → Four W (w.heap.size + 1) (.string ⟨#[]⟩) (.int .i64 0) (.slice none 0 0) (.slice none 0 0) := fun W q => by
    refine Four.below (W := W1) ?_ q (by omega)
    have g := Four.new (w.alloc (.cells #[.string t.name, .int .i64 t.most, .slice Au t.us.length cu, .slice Ar t.rows.length cr] 25)) (.string ⟨#[]⟩) (.int .i64 0) (.slice none 0 0) (.slice none 0 0) 25
    rw [hW1]
    simpa using g
  have HF1 := Lib.hid f1
  have HB := Lib.hid b01
  have HZ := Lib.hid z1
  have hz1 : w.heap.size + 1 + 1 ≤ W1.heap.size := by omega
  have HZZ := Lib.hid hz1
  clear f1 z1 hz1
  unfold dropT
  cases hm : mayT t with
  | false =>
    have c1 := begun_no t Au cu Ar cr W1 (h.below b01) hw hm
    simp only [Bool.false_eq_true, if_false]
    obtain ⟨n, hn⟩ : ∃ n, t.rows.length = n := ⟨_, rfl⟩
    obtain ⟨m, hm'⟩ : ∃ m, t.us.length = m := ⟨_, rfl⟩
    rw [hn, hm'] at c1 hW1 ⊢
    clear h hw b01 hm hn hm'
    subst hW1
    go_enter Tryz.func13, Tryz.ntmps13
    go_wp2_with fail
    refine c1.mono ?_
    rintro e w1 ⟨rfl, hb1⟩
    have F := HF1.out w1 hb1
    have FH := Lib.hid F
    obtain ⟨a0, a1, a2, a3, af⟩ := F
    have af0 := af 0
    have af1 := af 1
    have af2 := af 2
    have af3 := af 3
    clear af
    go_wp2
    refine bodyPost_ret (v := .tuple #[.agg #[.string ⟨#[]⟩, .int .i64 0, .slice none 0 0, .slice none 0 0], .int .i64 8]) ?_ rfl (res_zero w _ 8 (below_four (HB.out.trans (hb1.mono HB.out.size)) (by omega) _ _ _ _))
    rw [results_cell_tmp rfl]
    exact load_tab2 _ _ _ _ (four_zero FH.out) rfl rfl
  | true =>
    rw [if_pos rfl]
    have c1 := begun_yes t Au cu Ar cr W1 (h.below b01) hw hm
    have hr := mayT_rises hm
    have hrl := hw.rl
    have hTT : ∀ W, Below w.heap.size w W → Tabs W := fun W q => h.tabs.below q
    have c2 := fun W bk Au' cu' g (q : BookIn W t bk Au' cu' (some ⟨g, 0, none⟩) t.rows.length W.heap.size) => find_any t id bk Au' cu' (some ⟨g, 0, none⟩) t.rows.length W q hr
    obtain ⟨P, hP⟩ : ∃ P, before (idsL t.rows) id = P := ⟨_, rfl⟩
    unfold BegunPost at c1
    cases hh : hasB (idsL t.rows) id with
    | false =>
      simp only [hP, hh] at c2
      simp only [Bool.false_eq_true, if_false]
      have HC2 := Lib.hid c2
      have HT := Lib.hid hTT
      have HW := Lib.hid hw
      clear h b01 hm hr hP hh c2 hTT hw
      obtain ⟨n, hn⟩ : ∃ n, t.rows.length = n := ⟨_, rfl⟩
      obtain ⟨m, hm'⟩ : ∃ m, t.us.length = m := ⟨_, rfl⟩
      rw [hn] at hrl
      simp only [hn, hm'] at HC2 c1 hW1 ⊢
      have HNM := Lib.hid (And.intro hn hm')
      clear hn hm'
      subst hW1
      go_enter Tryz.func13, Tryz.ntmps13
      go_wp2_with fail
      refine c1.mono ?_
      rintro e w1 ⟨bk, Au1, cu1, g, rfl, hf, hnt, hbk, hty, hb1⟩
      have d1 := HB.out.trans (hb1.mono HB.out.size)
      have hti := hnt
      have hTI : TabIn w1 w1.heap.size t Au1 (some ⟨g, 0, none⟩) := by
        have := HNM.out
        rw [← this.1] at hnt
        exact hnt.tabIn (HT.out w1 d1) HW.out
      have hbkl := World.block_lt_of_cell? w1 ⟨bk, 0, none⟩ hf.c0
      have cf := HC2.out w1 bk Au1 cu1 g ⟨hbkl, hf.c0, hf.c1, by rw [HNM.out.2]; exact hf.c2, by rw [HNM.out.1]; exact hf.c3, hTI⟩
      clear hf hnt hti hTI hty c1 HC2
      go_wp2_with fail
      refine cf.mono ?_
      rintro e w2 ⟨rfl, hb2⟩
      clear cf
      have d2 := hb1.trans (hb2.mono hb1.size)
      have F := HF1.out w2 d2
      have FH := Lib.hid F
      obtain ⟨a0, a1, a2, a3, af⟩ := F
      have af0 := af 0
      have af1 := af 1
      have af2 := af 2
      have af3 := af 3
      clear af
      go_wp2
      refine bodyPost_ret (v := .tuple #[.agg #[.string ⟨#[]⟩, .int .i64 0, .slice none 0 0, .slice none 0 0], .int .i64 270]) ?_ rfl (res_zero w _ 270 (below_four (HB.out.trans (d2.mono HB.out.size)) (by omega) _ _ _ _))
      rw [results_cell_tmp rfl]
      exact load_tab2 _ _ _ _ (four_zero FH.out) rfl rfl
    | true =>
      simp only [hP, hh] at c2
      rw [if_pos rfl, hP]
      obtain ⟨hl, hle⟩ := hasB_get hh
      clear hle
      dsimp only
      have hPl : P < t.rows.length := by rw [hP, idsL_len] at hl; exact hl
      have HC2 := Lib.hid c2
      have HT := Lib.hid hTT
      have HW := Lib.hid hw
      clear h b01 hm hr hP hh c2 hTT hw hl
      obtain ⟨n, hn⟩ : ∃ n, t.rows.length = n := ⟨_, rfl⟩
      obtain ⟨m, hm'⟩ : ∃ m, t.us.length = m := ⟨_, rfl⟩
      rw [hn] at hrl hPl
      simp only [hn, hm'] at HC2 c1 hW1 ⊢
      have HNM := Lib.hid (And.intro hn hm')
      clear hn hm'
      have hPI : (P : Int) < n := by omega
      subst hW1
      go_enter Tryz.func13, Tryz.ntmps13
      go_wp2_with fail
      refine c1.mono ?_
      rintro e w1 ⟨bk, Au1, cu1, g, rfl, hf, hnt, hbk, hty, hb1⟩
      have d1 := HB.out.trans (hb1.mono HB.out.size)
      have hnt' : NewTab w1 ((w.alloc (.cells #[.string t.name, .int .i64 t.most, .slice Au m cu, .slice Ar n cr] 25)).alloc (.cells #[.string ⟨#[]⟩, .int .i64 0, .slice none 0 0, .slice none 0 0] 25)).heap.size t Au1 cu1 g n := hnt
      have hTI : TabIn w1 w1.heap.size t Au1 (some ⟨g, 0, none⟩) := hnt'.tabIn (HT.out w1 d1) HW.out
      have hbkl := World.block_lt_of_cell? w1 ⟨bk, 0, none⟩ hf.c0
      have cf := HC2.out w1 bk Au1 cu1 g ⟨hbkl, hf.c0, hf.c1, by rw [HNM.out.2]; exact hf.c2, by rw [HNM.out.1]; exact hf.c3, hTI⟩
      have HF := Lib.hid hf
      have HN := Lib.hid hnt'
      have HTY := Lib.hid hty
      clear hf hnt hnt' hTI hty c1 HC2
      go_wp2_with fail
      refine cf.mono ?_
      rintro e w2 ⟨rfl, hb2⟩
      clear cf
      have d2 := hb1.trans (hb2.mono hb1.size)
      have hf2 := HF.out.below hb2 hbkl
      have hn2 := HN.out.below hb2 (Nat.le_refl _)
      obtain ⟨hu2, ⟨vs, hg2, hvl, hkp⟩, hge, hcap⟩ := hn2
      rw [HNM.out.1] at hcap
      have hrow : w2.ownsRow ((w.alloc (.cells #[.string t.name, .int .i64 t.most, .slice Au m cu, .slice Ar n cr] 25)).alloc (.cells #[.string ⟨#[]⟩, .int .i64 0, .slice none 0 0, .slice none 0 0] 25)).heap.size 28 2 (.slice (some ⟨g, 0, none⟩) n n) n vs := by
        have := own_of_cells hge hg2 hvl (Nat.le_refl n) (by unfold maxLen; omega)
        rwa [List.take_of_length_le (by omega)] at this
      have cd := delete_rec g n P _ vs w2 hrow hPl (by omega) (hkp.one (by rw [HNM.out.1]; exact hvl))
      obtain ⟨c20, c21, c22, c23, c2f⟩ := hf2
      have H2 := Lib.hid (And.intro hu2 (And.intro hg2 (And.intro hvl hkp)))
      have hne2 : g ≠ bk := by
        rintro rfl
        obtain ⟨cs, hcs⟩ := HTY.out
        have h1 := (hb2.block g hbkl).trans hcs
        rw [hg2] at h1
        simp at h1
      clear hu2 hg2 hvl hkp hrow c2f
      go_wp2_with fail
      refine cd.mono ?_
      rintro e w3 ⟨rfl, ho3, hr3⟩
      clear cd
      have hf3 : Four w3 bk (.string t.name) (.int .i64 t.most) (.slice Au1 m cu1) (.slice (some ⟨g, 0, none⟩) n n) := (HF.out.below hb2 hbkl).grown hr3 (by simpa using fun e => hne2 e.symm)
      have hgw : w.heap.size + 1 + 1 ≤ g := Nat.le_trans HZZ.out hge
      have hbw2 : w.heap.size + 1 + 1 ≤ bk := Nat.le_trans HZZ.out hbk
      have r3 := (HF1.out w2 d2).grown hr3 (by simp; omega)
      have rS := r3.setOther (b' := bk) (i := 3) (by omega) (.slice (some ⟨g, 0, none⟩) (n - 1) n)
      have fS := hf3.set3 (.slice (some ⟨g, 0, none⟩) (n - 1) n)
      obtain ⟨csb, hcsb⟩ := HTY.out
      have hcs3 : w3.heap[bk]? = some (.cells csb 53 (0, 0)) := (hr3.block bk (Nat.lt_of_lt_of_le hbkl hb2.size) (by simpa using fun e => hne2 e.symm)).trans ((hb2.block bk hbkl).trans hcsb)
      have D3 := HB.out.trans (d2.mono HB.out.size)
      have hD3 : Below w.heap.size w (w3.setCell ⟨bk, 3, none⟩ (.slice (some ⟨g, 0, none⟩) (n - 1) n)) := (D3.grown hr3 D3.size (fun k hk => by cases hk; omega)).setCell (by show w.heap.size ≤ bk; omega) _
      have H3 := Lib.hid (And.intro ho3 (And.intro hr3 (And.intro hcs3 (And.intro rS (And.intro hD3 hgw)))))
      obtain ⟨c30, c31, c32, c33, c3f⟩ := hf3
      have c3f3 := c3f 3
      obtain ⟨a0, a1, a2, a3, af⟩ := r3
      have af0 := af 0
      have af1 := af 1
      have af2 := af 2
      have af3 := af 3
      have hnebw : ¬ bk = w.heap.size + 1 := by omega
      clear c20 c21 c22 c23 af c3f ho3 hr3 hcs3 rS fS hD3 hcsb D3
      go_wp2
      obtain ⟨ho3, hr3, hcs3, rS, hD3, hgw⟩ := H3.out
      obtain ⟨hu2, hg2, hvl, hkp⟩ := H2.out
      have gS := grown_set w3 bk 3 (.slice (some ⟨g, 0, none⟩) (n - 1) n)
      have oS := ho3.kept gS (own_ne_cells ho3 hcs3 (by decide))
      have uS := (hu2.kept hr3 (own_ne_cells hu2 hg2 (by decide))).kept gS (own_ne_cells (hu2.kept hr3 (own_ne_cells hu2 hg2 (by decide))) hcs3 (by decide))
      have kS := (hkp.grown hg2 hr3).grownT hcs3 (by decide) gS
      obtain ⟨L, hL1, hL2, hL3, _, _, _⟩ := own_cells oS
      have hn := HNM.out.1
      have hm := HNM.out.2
      have kD := kS.del (i := P) (L := L) (by rw [hn]; exact hvl) (by omega) (by rw [hn]; exact hL3)
      have hlen : (t.rows.take P ++ t.rows.drop (P + 1)).length = n - 1 := by rw [List.length_append, List.length_take, List.length_drop, hn]; omega
      have nS : NewTab (w3.setCell ⟨bk, 3, none⟩ (.slice (some ⟨g, 0, none⟩) (n - 1) n)) _ { t with rows := t.rows.take P ++ t.rows.drop (P + 1) } Au1 cu1 g n := ⟨uS, ⟨L, hL1, hL2, kD⟩, hge, by show (t.rows.take P ++ t.rows.drop (P + 1)).length ≤ n; omega⟩
      have gF := grown_four (w3.setCell ⟨bk, 3, none⟩ (.slice (some ⟨g, 0, none⟩) (n - 1) n)) (w.heap.size + 1) (.string t.name) (.int .i64 t.most) (.slice Au1 m cu1) (.slice (some ⟨g, 0, none⟩) (n - 1) n)
      have nF := nS.grown gF (by have := HZZ.out; omega)
      have rF := (((rS.set0 (.string t.name)).set1 (.int .i64 t.most)).set2 (.slice Au1 m cu1)).set3 (.slice (some ⟨g, 0, none⟩) (n - 1) n)
      refine bodyPost_ret (v := .tuple #[.agg #[.string t.name, .int .i64 t.most, .slice Au1 m cu1, .slice (some ⟨g, 0, none⟩) (n - 1) n], .int .i64 0]) ?_ rfl ⟨Au1, cu1, some ⟨g, 0, none⟩, n, ?_, .inr ⟨g, rfl, ?_⟩, ?_⟩
      · rw [results_cell_tmp rfl]
        exact load_tab2 _ _ _ _ rF rfl rfl
      · show _ = Ending.returned (.tuple #[.agg #[.string t.name, .int .i64 t.most, .slice Au1 t.us.length cu1, .slice (some ⟨g, 0, none⟩) (t.rows.take P ++ t.rows.drop (P + 1)).length n], .int .i64 0])
        rw [hlen, hm]
      · obtain ⟨q1, ⟨L', q2, q3, q4⟩, q5, q6⟩ := nF
        exact ⟨own_base q1 HB.out.size, ⟨L', q2, q3, q4.base HB.out.size⟩, Nat.le_trans HB.out.size q5, q6⟩
      · exact below_four hD3 (by omega) _ _ _ _
end
section
open Go.RowKit
def setT (t : TabC) (r : RecC) : TabC × Int := if mayT t = true then (if oneR r = true then (if hasB (idsL t.rows) r.id = true then (if Tb.clashes ordC t r = true then (zeroT, 271) else ({ t with rows := t.rows.set (before (idsL t.rows) r.id) r }, 0)) else (zeroT, 270)) else (zeroT, 8)) else (zeroT, 8)
/-- the three boxes of Put and Set -/
def Box3 (w : World) (t : TabC) (r : RecC) (Au : Option Addr) (cu : Nat) (Ar : Option Addr) (cr : Nat) (A : Option Addr) (c : Nat) : World :=
  ((w.alloc (.cells #[.string t.name, .int .i64 t.most, .slice Au t.us.length cu, .slice Ar t.rows.length cr] 25)).alloc (.cells #[.string r.id, .slice A r.data.length c] 28)).alloc (.cells #[.string ⟨#[]⟩, .int .i64 0, .slice none 0 0, .slice none 0 0] 25)
structure Facts3 (w W1 : World) (r : RecC) (A : Option Addr) (c : Nat) : Prop where
  z : W1.heap.size = w.heap.size + 1 + 1 + 1
  b : Below w.heap.size w W1
  res : ∀ W, Below W1.heap.size W1 W → Four W (w.heap.size + 1 + 1) (.string ⟨#[]⟩) (.int .i64 0) (.slice none 0 0) (.slice none 0 0)
  rc : ∀ W, Below W1.heap.size W1 W → W.cell? ⟨w.heap.size + 1, 0, none⟩ = some (.string r.id) ∧ W.cell? ⟨w.heap.size + 1, 1, none⟩ = some (.slice A r.data.length c)
theorem facts3 (w : World) (t : TabC) (r : RecC) (Au : Option Addr) (cu : Nat) (Ar : Option Addr) (cr : Nat) (A : Option Addr) (c : Nat) : Facts3 w (Box3 w t r Au cu Ar cr A c) r A c := by
  have z : (Box3 w t r Au cu Ar cr A c).heap.size = w.heap.size + 1 + 1 + 1 := by simp [Box3]
  refine ⟨z, (((Below.refl _ _).alloc (Nat.le_refl _) _).alloc (by simp) _).alloc (by simp; omega) _, fun W q => ?_, fun W q => ?_⟩
  · refine Four.below (W := Box3 w t r Au cu Ar cr A c) ?_ q (by omega)
    have g := Four.new ((w.alloc (.cells #[.string t.name, .int .i64 t.most, .slice Au t.us.length cu, .slice Ar t.rows.length cr] 25)).alloc (.cells #[.string r.id, .slice A r.data.length c] 28)) (.string ⟨#[]⟩) (.int .i64 0) (.slice none 0 0) (.slice none 0 0) 25
    simpa [Box3] using g
  · have b : Below ((w.alloc (.cells #[.string t.name, .int .i64 t.most, .slice Au t.us.length cu, .slice Ar t.rows.length cr] 25)).alloc (.cells #[.string r.id, .slice A r.data.length c] 28)).heap.size ((w.alloc (.cells #[.string t.name, .int .i64 t.most, .slice Au t.us.length cu, .slice Ar t.rows.length cr] 25)).alloc (.cells #[.string r.id, .slice A r.data.length c] 28)) W :=
      ((Below.refl _ _).alloc (Nat.le_refl _) _).trans (q.mono (by simp [Box3]))
    have g0 := box_keep b 0 (by simp)
    have g1 := box_keep b 1 (by simp)
    simp only [World.size_alloc] at g0 g1
    exact ⟨g0, g1⟩
theorem NewTab.book {w : World} {base : Nat} {t : TabC} {Au : Option Addr} {cu g c bk : Nat} (h : NewTab w base t Au cu g c) (hf : Four w bk (.string t.name) (.int .i64 t.most) (.slice Au t.us.length cu) (.slice (some ⟨g, 0, none⟩) t.rows.length c)) (hT : Tabs w) (hw : TabW t) : BookIn w t bk Au cu (some ⟨g, 0, none⟩) c w.heap.size :=
  ⟨World.block_lt_of_cell? w ⟨bk, 0, none⟩ hf.c0, hf.c0, hf.c1, hf.c2, hf.c3, h.tabIn hT hw⟩
set_option maxRecDepth 100000 in
set_option maxHeartbeats 16000000 in
theorem set_t (t : TabC) (r : RecC) (Au : Option Addr) (cu : Nat) (Ar : Option Addr) (cr : Nat) (A : Option Addr) (c : Nat) (w : World) {B B' : Nat} (h : TabIn w B t Au Ar) (hw : TabW t) (hri : RecIn w B' r.data A c) (hB' : B' ≤ w.heap.size) (hrw : RecW r) :
    Calls Tryz.prog 11 #[.agg #[.string t.name, .int .i64 t.most, .slice Au t.us.length cu, .slice Ar t.rows.length cr], .agg #[.string r.id, .slice A r.data.length c]] w fun e w' => ResPost (setT t r).1 (setT t r).2 w e w' := by
  have F3 := facts3 w t r Au cu Ar cr A c
  obtain ⟨W1, hW1⟩ : ∃ W1, W1 = Box3 w t r Au cu Ar cr A c := ⟨_, rfl⟩
  rw [← hW1] at F3
  have HF := Lib.hid F3
  have b01 := F3.b
  have hz1 : w.heap.size + 1 + 1 + 1 ≤ W1.heap.size := Nat.le_of_eq F3.z.symm
  have HZ := Lib.hid hz1
  have HH := Lib.hid (And.intro h (And.intro hw (And.intro hri (And.intro hB' hrw))))
  have hT : ∀ W, Below w.heap.size w W → Tabs W := fun W q => h.tabs.below q
  have HT := Lib.hid hT
  obtain ⟨X, hX⟩ : ∃ X, setT t r = X := ⟨_, rfl⟩
  rw [hX]
  unfold setT at hX
  cases hm : mayT t with
  | false =>
    have c1 := begun_no t Au cu Ar cr W1 (h.below b01) hw hm
    obtain rfl : X = (zeroT, 8) := by rw [← hX, hm]; rfl
    dsimp only
    clear h hw hri hB' hrw hT hm b01 F3 hz1 hX
    unfold Box3 at hW1
    subst hW1
    go_enter Tryz.func11, Tryz.ntmps11
    go_wp2_with fail
    refine c1.mono ?_
    rintro e w1 ⟨rfl, hb1⟩
    have F := HF.out.res w1 hb1
    have FH := Lib.hid F
    obtain ⟨a0, a1, a2, a3, af⟩ := F
    have af0 := af 0
    have af1 := af 1
    have af2 := af 2
    have af3 := af 3
    clear af
    go_wp2
    refine bodyPost_ret (v := .tuple #[.agg #[.string ⟨#[]⟩, .int .i64 0, .slice none 0 0, .slice none 0 0], .int .i64 8]) ?_ rfl (res_zero w _ 8 (below_four (HF.out.b.trans (hb1.mono HF.out.b.size)) (by omega) _ _ _ _))
    rw [results_cell_tmp rfl]
    exact load_tab2 _ _ _ _ (four_zero FH.out) rfl rfl
  | true =>
    have c1 := begun_yes t Au cu Ar cr W1 (h.below b01) hw hm
    rw [hm, if_pos rfl] at hX
    have HX := Lib.hid hX
    have HR := Lib.hid (mayT_rises hm)
    unfold BegunPost at c1
    have c2 := fun W (q : Below w.heap.size w W) => one_any r A c W ((hri.thru q hB').inn (Nat.le_trans hB' q.size) hrw (hT W q)) (by have := hrw.len; omega)
    obtain ⟨ON, hON⟩ : ∃ ON, oneR r = ON := ⟨_, rfl⟩
    simp only [hON] at c2
    have HC2 := Lib.hid c2
    have HON := Lib.hid hON
    clear h hw hri hB' hrw hT hm b01 F3 hz1 hX c2 hON
    unfold Box3 at hW1
    subst hW1
    go_enter Tryz.func11, Tryz.ntmps11
    go_wp2_with fail
    refine c1.mono ?_
    rintro e w1 ⟨bk, Au1, cu1, g, rfl, hf, hnt, hbk, hty, hb1⟩
    have d1 := HF.out.b.trans (hb1.mono HF.out.b.size)
    have HFO := Lib.hid hf
    have HN := Lib.hid hnt
    have HTY := Lib.hid hty
    have hbkl := World.block_lt_of_cell? w1 ⟨bk, 0, none⟩ hf.c0
    obtain ⟨k0, k1⟩ := HF.out.rc w1 hb1
    have o1 := HC2.out w1 d1
    clear hf hnt hty c1 HC2
    go_wp2_with fail
    refine o1.mono ?_
    rintro e w2 ⟨rfl, hb2⟩
    clear o1 k0 k1
    have q2 := hb1.trans (hb2.mono hb1.size)
    have d2 := HF.out.b.trans (q2.mono HF.out.b.size)
    cases ON with
    | false =>
      obtain rfl : X = (zeroT, 8) := by rw [← HX.out, HON.out]; rfl
      dsimp only
      have F := HF.out.res w2 q2
      have FH := Lib.hid F
      obtain ⟨a0, a1, a2, a3, af⟩ := F
      have af0 := af 0
      have af1 := af 1
      have af2 := af 2
      have af3 := af 3
      clear af
      go_wp2
      refine bodyPost_ret (v := .tuple #[.agg #[.string ⟨#[]⟩, .int .i64 0, .slice none 0 0, .slice none 0 0], .int .i64 8]) ?_ rfl (res_zero w _ 8 (below_four d2 (by omega) _ _ _ _))
      rw [results_cell_tmp rfl]
      exact load_tab2 _ _ _ _ (four_zero FH.out) rfl rfl
    | true =>
      obtain ⟨h, hw, hri, hB', hrw⟩ := HH.out
      have hf2 := HFO.out.below hb2 hbkl
      have hn2 := HN.out.below hb2 (Nat.le_refl _)
      have bi2 := hn2.book hf2 (HT.out w2 d2) hw
      have c3 := find_any t r.id bk Au1 cu1 (some ⟨g, 0, none⟩) t.rows.length w2 bi2 HR.out
      obtain ⟨P, hP⟩ : ∃ P, before (idsL t.rows) r.id = P := ⟨_, rfl⟩
      obtain ⟨Q, hQ⟩ : ∃ Q, hasB (idsL t.rows) r.id = Q := ⟨_, rfl⟩
      rw [hP, hQ] at c3
      obtain ⟨k0, k1⟩ := HF.out.rc w2 q2
      have HBI := Lib.hid bi2
      have HF2 := Lib.hid hf2
      have HN2 := Lib.hid hn2
      have HP := Lib.hid hP
      have HQ := Lib.hid hQ
      clear h hw hri hB' hrw bi2 hf2 hn2 hP hQ
      go_wp2_with fail
      refine c3.mono ?_
      rintro e w3 ⟨rfl, hb3⟩
      clear c3 k0 k1
      have q3 := q2.trans (hb3.mono q2.size)
      have d3 := HF.out.b.trans (q3.mono HF.out.b.size)
      cases Q with
      | false =>
        obtain rfl : X = (zeroT, 270) := by rw [← HX.out, HON.out, HQ.out]; rfl
        dsimp only
        have F := HF.out.res w3 q3
        have FH := Lib.hid F
        obtain ⟨a0, a1, a2, a3, af⟩ := F
        have af0 := af 0
        have af1 := af 1
        have af2 := af 2
        have af3 := af 3
        clear af
        go_wp2
        refine bodyPost_ret (v := .tuple #[.agg #[.string ⟨#[]⟩, .int .i64 0, .slice none 0 0, .slice none 0 0], .int .i64 270]) ?_ rfl (res_zero w _ 270 (below_four d3 (by omega) _ _ _ _))
        rw [results_cell_tmp rfl]
        exact load_tab2 _ _ _ _ (four_zero FH.out) rfl rfl
      | true =>
        obtain ⟨h, hw, hri, hB', hrw⟩ := HH.out
        have c4 := clash_any t r bk Au1 cu1 (some ⟨g, 0, none⟩) t.rows.length A c w3 (HBI.out.below hb3) (hri.thru d3 hB') (Nat.le_trans hB' d3.size) hrw
        obtain ⟨C, hC⟩ : ∃ C, Tb.clashes ordC t r = C := ⟨_, rfl⟩
        rw [hC] at c4
        obtain ⟨k0, k1⟩ := HF.out.rc w3 q3
        have HC := Lib.hid hC
        clear h hw hri hB' hrw hC
        go_wp2_with fail
        refine c4.mono ?_
        rintro e w4 ⟨rfl, hb4⟩
        clear c4 k0 k1
        have q4 := q3.trans (hb4.mono q3.size)
        have d4 := HF.out.b.trans (q4.mono HF.out.b.size)
        cases C with
        | true =>
          obtain rfl : X = (zeroT, 271) := by rw [← HX.out, HON.out, HQ.out, HC.out]; rfl
          dsimp only
          have F := HF.out.res w4 q4
          have FH := Lib.hid F
          obtain ⟨a0, a1, a2, a3, af⟩ := F
          have af0 := af 0
          have af1 := af 1
          have af2 := af 2
          have af3 := af 3
          clear af
          go_wp2
          refine bodyPost_ret (v := .tuple #[.agg #[.string ⟨#[]⟩, .int .i64 0, .slice none 0 0, .slice none 0 0], .int .i64 271]) ?_ rfl (res_zero w _ 271 (below_four d4 (by omega) _ _ _ _))
          rw [results_cell_tmp rfl]
          exact load_tab2 _ _ _ _ (four_zero FH.out) rfl rfl
        | false =>
          obtain rfl : X = ({ t with rows := t.rows.set P r }, 0) := by rw [← HX.out, HON.out, HQ.out, HC.out, HP.out]; rfl
          dsimp only
          obtain ⟨h, hw, hri, hB', hrw⟩ := HH.out
          have hPl : P < t.rows.length := by
            obtain ⟨hl, _⟩ := hasB_get HQ.out
            rw [HP.out, idsL_len] at hl
            exact hl
          have b24 : Below w2.heap.size w2 w4 := hb3.trans (hb4.mono hb3.size)
          have hf4 := HF2.out.below b24 (Nat.lt_of_lt_of_le hbkl hb2.size)
          have hn4 := HN2.out.below b24 (Nat.le_refl _)
          obtain ⟨hu4, ⟨vs, hg4, hvl, hkp⟩, hge, hcap⟩ := hn4
          have hbk4 : bk < w4.heap.size := Nat.lt_of_lt_of_le hbkl (Nat.le_trans hb2.size b24.size)
          obtain ⟨csb, hcsb⟩ := HTY.out
          have hcs4 : w4.heap[bk]? = some (.cells csb 53 (0, 0)) := ((hb2.trans (b24.mono hb2.size)).block bk hbkl).trans hcsb
          have hne2 : g ≠ bk := by
            rintro rfl
            rw [hg4] at hcs4
            simp at hcs4
          have hg4l := (Array.getElem?_eq_some_iff.1 hg4).1
          have hgw : w.heap.size + 1 + 1 + 1 ≤ g := Nat.le_trans HZ.out hge
          have hPI : (P : Int) < t.rows.length := by omega
          have htw := fun W (q : Below w4.heap.size w4 W) => (twin_rec r A c W (hri.rd.thru (d4.trans (q.mono d4.size)) hB') (Nat.le_trans hB' (Nat.le_trans d4.size q.size)) hrw.len).mono
            (R' := fun e w' => ∃ A5 c5, e = .returned (.agg #[.string r.id, .slice A5 r.data.length c5]) ∧ w'.ownsRow w4.heap.size 47 5 (.slice A5 r.data.length c5) r.data.length (cv r.data) ∧ Below w4.heap.size w4 w') fun e w' h => by
              obtain ⟨A5, c5, e1, o1, b1⟩ := h
              exact ⟨A5, c5, e1, own_base o1 q.size, q.trans (b1.mono q.size)⟩
          have HK : ∀ W, Below w4.heap.size w4 W → W.cell? ⟨bk, 3, none⟩ = some (.slice (some ⟨g, 0, none⟩) t.rows.length t.rows.length) ∧ W.cell? ⟨w.heap.size + 1, 0, none⟩ = some (.string r.id) ∧ W.cell? ⟨w.heap.size + 1, 1, none⟩ = some (.slice A r.data.length c) := fun W q =>
            ⟨(hf4.below q hbk4).c3, HF.out.rc W (q4.trans (q.mono q4.size))⟩
          have HT5 : ∀ W, Below w4.heap.size w4 W → (∃ a, W.cell? ⟨g, P * 2, none⟩ = some a) ∧ (∃ a, W.cell? ⟨g, P * 2 + 1, none⟩ = some a) ∧ W.frozen? ⟨g, P * 2, none⟩ = false ∧ W.frozen? ⟨g, P * 2 + 1, none⟩ = false := fun W q => by
            have hh := (q.block g hg4l).trans hg4
            exact ⟨⟨_, cells_read hh (P * 2) (by omega)⟩, ⟨_, cells_read hh (P * 2 + 1) (by omega)⟩, by simp [World.frozen?, hh], by simp [World.frozen?, hh]⟩
          have HS : ∀ (W : World) (a b : Value), (W.cell? ⟨bk, 3, none⟩ = some (.slice (some ⟨g, 0, none⟩) t.rows.length t.rows.length) ∧ W.cell? ⟨w.heap.size + 1, 0, none⟩ = some (.string r.id) ∧ W.cell? ⟨w.heap.size + 1, 1, none⟩ = some (.slice A r.data.length c)) →
              ((W.setCell ⟨g, P * 2, none⟩ a).setCell ⟨g, P * 2 + 1, none⟩ b).cell? ⟨bk, 3, none⟩ = some (.slice (some ⟨g, 0, none⟩) t.rows.length t.rows.length) ∧ ((W.setCell ⟨g, P * 2, none⟩ a).setCell ⟨g, P * 2 + 1, none⟩ b).cell? ⟨w.heap.size + 1, 0, none⟩ = some (.string r.id) ∧ ((W.setCell ⟨g, P * 2, none⟩ a).setCell ⟨g, P * 2 + 1, none⟩ b).cell? ⟨w.heap.size + 1, 1, none⟩ = some (.slice A r.data.length c) := fun W a b hh => by
            have gg := grown_trans (grown_set W g (P * 2) a) (grown_set _ g (P * 2 + 1) b)
            exact ⟨gg.cell hh.1 (by simpa using fun e => hne2 e.symm), gg.cell hh.2.1 (by simp; omega), gg.cell hh.2.2 (by simp; omega)⟩
          have KK := Lib.hid HK
          have KT := Lib.hid HT5
          have KS := Lib.hid HS
          have KTW := Lib.hid htw
          have H4 := Lib.hid (And.intro hf4 (And.intro hu4 (And.intro hg4 (And.intro hvl (And.intro hkp (And.intro hcs4 (And.intro hge hPl)))))))
          obtain ⟨x0, x1, x2⟩ := HK w4 (Below.refl _ _)
          clear h hw hri hB' hrw hf4 hu4 hg4 hvl hkp hcs4 hcsb htw HK HT5 HS hcap hPl
          go_wp2
          go_region_held3 (fun W => W.cell? ⟨bk, 3, none⟩ = some (.slice (some ⟨g, 0, none⟩) t.rows.length t.rows.length) ∧ W.cell? ⟨w.heap.size + 1, 0, none⟩ = some (.string r.id) ∧ W.cell? ⟨w.heap.size + 1, 1, none⟩ = some (.slice A r.data.length c))
            (first | exact KS.out _ _ _ (by assumption) | exact KK.out _ (by repeat (first | assumption | exact Below.refl _ _ | refine Below.drew ?_)))
            ((go_at_call 25; (with_reducible refine (KTW.out _ ?_).mono ?_); (repeat (first | assumption | exact Below.refl _ _ | refine Below.drew ?_)); rintro e w5 ⟨A5, c5, rfl, ho5, hb5⟩; obtain ⟨⟨s0, hs0⟩, ⟨s1, hs1⟩, fs0, fs1⟩ := KT.out w5 hb5))
          obtain ⟨hf4, hu4, hg4, hvl, hkp, hcs4, hge, hPl⟩ := H4.out
          have hg5 := (hb5.block g hg4l).trans hg4
          have s1c := set_cells hg5 (P * 2) (.string r.id)
          have s2c := set_cells s1c (P * 2 + 1) (.slice A5 r.data.length c5)
          have gss := grown_trans (grown_set w5 g (P * 2) (.string r.id)) (grown_set _ g (P * 2 + 1) (.slice A5 r.data.length c5))
          have gall := grown_trans (of_below (bE := some g) hb5) gss
          have o2 := (own_base ho5 q4.size).kept gss (own_ne_cells ho5 hg5 (by decide))
          have kN := (hkp.grown hg4 gall).put (by omega) hPl o2
          have uN := hu4.kept gall (own_ne_cells hu4 hg4 (by decide))
          have fS := (hf4.below hb5 hbk4).grown gss (by simpa using fun e => hne2 e.symm)
          have rS := (HF.out.res w5 (q4.trans (hb5.mono q4.size))).grown gss (by simp; omega)
          have hDS : Below w.heap.size w ((w5.setCell ⟨g, P * 2, none⟩ (.string r.id)).setCell ⟨g, P * 2 + 1, none⟩ (.slice A5 r.data.length c5)) := ((d4.trans (hb5.mono d4.size)).setCell (by show w.heap.size ≤ g; omega) _).setCell (by show w.heap.size ≤ g; omega) _
          obtain ⟨wS, hwS⟩ : ∃ W, W = (w5.setCell ⟨g, P * 2, none⟩ (.string r.id)).setCell ⟨g, P * 2 + 1, none⟩ (.slice A5 r.data.length c5) := ⟨_, rfl⟩
          rw [← hwS] at s2c gss gall o2 kN uN fS rS hDS ⊢
          have HN := Lib.hid (And.intro hvl (And.intro s2c (And.intro kN (And.intro uN (And.intro rS (And.intro hDS hge))))))
          obtain ⟨c30, c31, c32, c33, c3f⟩ := fS
          obtain ⟨a0, a1, a2, a3, af⟩ := rS
          have af0 := af 0
          have af1 := af 1
          have af2 := af 2
          have af3 := af 3
          clear af c3f hf4 hu4 hg4 hvl hkp hcs4 hge hPl hg5 s1c s2c gss gall o2 kN uN hDS ho5 hs0 hs1 fs0 fs1 x0 x1 x2 hwS
          go_wp2
          obtain ⟨hvl, s2c, kN, uN, rS, hDS, hge⟩ := HN.out
          have nS : NewTab wS _ { t with rows := t.rows.set P r } Au1 cu1 g t.rows.length := ⟨uN, ⟨_, s2c, by simp [hvl], kN⟩, hge, by simp⟩
          have gF := grown_four wS (w.heap.size + 1 + 1) (.string t.name) (.int .i64 t.most) (.slice Au1 t.us.length cu1) (.slice (some ⟨g, 0, none⟩) t.rows.length t.rows.length)
          have nF := nS.grown gF (by have := HZ.out; omega)
          have rF := (((rS.set0 (.string t.name)).set1 (.int .i64 t.most)).set2 (.slice Au1 t.us.length cu1)).set3 (.slice (some ⟨g, 0, none⟩) t.rows.length t.rows.length)
          refine bodyPost_ret (v := .tuple #[.agg #[.string t.name, .int .i64 t.most, .slice Au1 t.us.length cu1, .slice (some ⟨g, 0, none⟩) t.rows.length t.rows.length], .int .i64 0]) ?_ rfl ⟨Au1, cu1, some ⟨g, 0, none⟩, t.rows.length, ?_, .inr ⟨g, rfl, ?_⟩, ?_⟩
          · rw [results_cell_tmp rfl]
            exact load_tab2 _ _ _ _ rF rfl rfl
          · show _ = Ending.returned (.tuple #[.agg #[.string t.name, .int .i64 t.most, .slice Au1 t.us.length cu1, .slice (some ⟨g, 0, none⟩) (t.rows.set P r).length t.rows.length], .int .i64 0])
            rw [List.length_set]
          · obtain ⟨q1, ⟨L', q2, q3, q4⟩, q5, q6⟩ := nF
            exact ⟨own_base q1 HF.out.b.size, ⟨L', q2, q3, q4.base HF.out.b.size⟩, Nat.le_trans HF.out.b.size q5, q6⟩
          · exact below_four hDS (by omega) _ _ _ _
end
end Go.Proofs.YtcgioepbooafcaaGreatDoor
