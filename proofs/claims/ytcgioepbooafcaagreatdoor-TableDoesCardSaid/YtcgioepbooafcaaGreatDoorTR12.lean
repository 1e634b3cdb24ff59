/- The reference's Check, Drop, Added, Turned. Conditions: lengths within the model's. -/
import Derived.Test.YtcgioepbooafcaaGreatDoorTR11
import Derived.Laws.ResultCell
namespace Go.Proofs.YtcgioepbooafcaaGreatDoor
open Go.RowKit
def RRes (x : TabC) (E : Int) (w : World) (e : Ending) (w' : World) : Prop := ∃ Au cu Ar cr, e = .returned (.tuple #[.agg #[.string x.name, .int .i64 x.most, .slice Au x.us.length cu, .slice Ar x.rows.length cr], .int .i64 E]) ∧ w'.ownsRow w.heap.size 9 1 (.slice Au x.us.length cu) x.us.length (sv x.us) ∧ OwnRows w' w.heap.size Ar cr x.rows ∧ Below w.heap.size w w'
theorem rres_zero {w W : World} (E : Int) (hb : Below w.heap.size w W) : RRes zeroT E w (.returned (.tuple #[.agg #[.string ⟨#[]⟩, .int .i64 0, .slice none 0 0, .slice none 0 0], .int .i64 E])) W :=
  ⟨none, 0, none, 0, rfl, World.ownsRow_nil _ _ _ _, OwnRows.nil, hb⟩
/-- a table made at w5 is stored into the result's box -/
theorem rres_put {w w5 : World} {x : TabC} {g : Nat} {base : Nat} {Au : Option Addr} {cu : Nat} {Ar : Option Addr} {cr : Nat} {v0 v1 v2 v3 : Value} {nm : ByteArray} {mo : Int} {nu nr : Nat} (E : Int) (e1 : x.name = nm) (e2 : x.most = mo) (e3 : x.us.length = nu) (e4 : x.rows.length = nr) (hb : Below w.heap.size w w5) (hg : w.heap.size ≤ g) (hbase : g < base)
    (ou : w5.ownsRow base 9 1 (.slice Au nu cu) nu (sv x.us)) (orr : OwnRows w5 base Ar cr x.rows) (f : Four w5 g v0 v1 v2 v3) :
    RRes x E w (.returned (.tuple #[.agg #[.string nm, .int .i64 mo, .slice Au nu cu, .slice Ar nr cr], .int .i64 E])) ((((w5.setCell ⟨g, 0, none⟩ (.string nm)).setCell ⟨g, 1, none⟩ (.int .i64 mo)).setCell ⟨g, 2, none⟩ (.slice Au nu cu)).setCell ⟨g, 3, none⟩ (.slice Ar nr cr)) ∧
      Four ((((w5.setCell ⟨g, 0, none⟩ (.string nm)).setCell ⟨g, 1, none⟩ (.int .i64 mo)).setCell ⟨g, 2, none⟩ (.slice Au nu cu)).setCell ⟨g, 3, none⟩ (.slice Ar nr cr)) g (.string nm) (.int .i64 mo) (.slice Au nu cu) (.slice Ar nr cr) := by
  subst e1 e2 e3 e4
  have gz := grown_four w5 g (.string x.name) (.int .i64 x.most) (.slice Au x.us.length cu) (.slice Ar x.rows.length cr)
  exact ⟨⟨Au, cu, Ar, cr, rfl, own_base (ou.kept gz (own_ne_base ou hbase)) (by omega), (orr.grown gz hbase).mono (by omega), below_four hb hg _ _ _ _⟩, (((f.set0 _).set1 _).set2 _).set3 _⟩
/-- a table with other rows, read with its numbers -/
theorem RTwin.lit {t : TabC} {R : List RecC} {m : Nat} (hm : t.us.length = m) {w : World} {e : Ending} {w' : World} (h : RTwin { t with rows := R } w e w') : ∃ Au cu Ar cr, e = .returned (.agg #[.string t.name, .int .i64 t.most, .slice Au m cu, .slice Ar R.length cr]) ∧ w'.ownsRow w.heap.size 9 1 (.slice Au m cu) m (sv t.us) ∧ OwnRows w' w.heap.size Ar cr R ∧ Below w.heap.size w w' := by
  subst hm
  exact h
theorem rowI_neg {rs : List RecC} {id : ByteArray} (h : Tb.hasId rs id = false) : decide (rowI rs id < 0) = true ∧ decide (0 ≤ rowI rs id) = false := by
  have := rowI_has rs id
  rw [h] at this
  exact ⟨by have := of_decide_eq_false this; simp; omega, this⟩
theorem rowI_pos {rs : List RecC} {id : ByteArray} (h : Tb.hasId rs id = true) : decide (rowI rs id < 0) = false ∧ decide (0 ≤ rowI rs id) = true := by
  have := rowI_has rs id
  rw [h] at this
  exact ⟨by have := of_decide_eq_true this; simp; omega, this⟩
set_option maxHeartbeats 4000000 in
theorem rcheck_any (t : TabC) (Au : Option Addr) (cu : Nat) (Ar : Option Addr) (cr : Nat) (w : World) {B : Nat} (h : RTab w B t Au Ar) :
    Calls Tryz.prog 18 #[.agg #[.string t.name, .int .i64 t.most, .slice Au t.us.length cu, .slice Ar t.rows.length cr]] w fun e w' => e = .returned (.int .i64 (checkT t)) ∧ Below w.heap.size w w' := by
  obtain ⟨W1, hW1⟩ : ∃ W1, W1 = w.alloc (.cells #[.string t.name, .int .i64 t.most, .slice Au t.us.length cu, .slice Ar t.rows.length cr] 25) := ⟨_, rfl⟩
  have hb1 : Below w.heap.size w W1 := by rw [hW1]; exact (Below.refl _ _).alloc (Nat.le_refl _) _
  have cm := rmay_any t Au cu Ar cr W1 (h.below hb1)
  have hv : checkT t = if mayT t = true then 0 else 8 := rfl
  rw [hv]
  obtain ⟨n, hn⟩ : ∃ n, t.rows.length = n := ⟨_, rfl⟩
  obtain ⟨m, hm⟩ : ∃ m, t.us.length = m := ⟨_, rfl⟩
  obtain ⟨V, hV⟩ : ∃ V, mayT t = V := ⟨_, rfl⟩
  rw [hV] at cm ⊢
  rw [hn, hm] at cm hW1 ⊢
  have HB := Lib.hid hb1
  clear h hb1 hv hn hm hV
  subst hW1
  cases V with
  | true =>
    simp only [if_true]
    go_enter Tryz.func18, Tryz.ntmps18
    go_wp2_with fail
    refine cm.mono ?_
    rintro e w1 ⟨rfl, q1⟩
    go_wp2
    go_ret
    exact ⟨rfl, HB.out.trans (q1.mono HB.out.size)⟩
  | false =>
    simp only [Bool.false_eq_true, if_false]
    go_enter Tryz.func18, Tryz.ntmps18
    go_wp2_with fail
    refine cm.mono ?_
    rintro e w1 ⟨rfl, q1⟩
    go_wp2
    go_ret
    exact ⟨rfl, HB.out.trans (q1.mono HB.out.size)⟩
/-- what the reference's Drop answers -/
def dropQ (t : TabC) (id : ByteArray) : TabC × Int := if mayT t = true then (if Tb.hasId t.rows id = true then ({ t with rows := woF id t.rows }, 0) else (zeroT, 270)) else (zeroT, 8)
set_option maxRecDepth 100000 in
set_option maxHeartbeats 8000000 in
theorem rdrop_any (t : TabC) (id : ByteArray) (Au : Option Addr) (cu : Nat) (Ar : Option Addr) (cr : Nat) (w : World) {B : Nat} (h : RTab w B t Au Ar) :
    Calls Tryz.prog 14 #[.agg #[.string t.name, .int .i64 t.most, .slice Au t.us.length cu, .slice Ar t.rows.length cr], .string id] w fun e w' => RRes (dropQ t id).1 (dropQ t id).2 w e w' := by
  obtain ⟨W1, hW1⟩ : ∃ W1, W1 = (w.alloc (.cells #[.string t.name, .int .i64 t.most, .slice Au t.us.length cu, .slice Ar t.rows.length cr] 25)).alloc (.cells #[.string ⟨#[]⟩, .int .i64 0, .slice none 0 0, .slice none 0 0] 25) := ⟨_, rfl⟩
  have F := f2z_mk w t Au cu Ar cr hW1
  have HF := Lib.hid F
  have dW : ∀ W, Below W1.heap.size W1 W → Below w.heap.size w W := fun W q => F.b.trans (q.mono F.b.size)
  have DW := Lib.hid dW
  have cm := rmay_any t Au cu Ar cr W1 (h.below F.b)
  have cr1 := fun W (q : Below W1.heap.size W1 W) => rrow_any t id Au cu Ar cr W (h.below (dW W q))
  have cw := fun W (q : Below W1.heap.size W1 W) => rwithout_any t id Au cu Ar cr W (h.below (dW W q))
  obtain ⟨n, hn⟩ : ∃ n, t.rows.length = n := ⟨_, rfl⟩
  obtain ⟨m, hm⟩ : ∃ m, t.us.length = m := ⟨_, rfl⟩
  have kt : ∀ W, Below W1.heap.size W1 W → Four W w.heap.size (.string t.name) (.int .i64 t.most) (.slice Au m cu) (.slice Ar n cr) := fun W q => by have := F.t W q; rw [hm, hn] at this; exact this
  have KT := Lib.hid kt
  unfold dropQ
  obtain ⟨V, hV⟩ : ∃ V, mayT t = V := ⟨_, rfl⟩
  rw [hV] at cm ⊢
  simp only [hn, hm] at cr1 cw
  rw [hn, hm] at cm hW1 ⊢
  have HW1 := Lib.hid hW1
  obtain ⟨f0, f1, f2, f3, _⟩ := kt W1 (Below.refl _ _)
  cases V with
  | false =>
    simp only [Bool.false_eq_true, if_false]
    clear h F dW cr1 cw hn hm hV hW1 kt
    go_enter Tryz.func14, Tryz.ntmps14
    go_wp2_with fail
    rw [← HW1.out]
    refine cm.mono ?_
    rintro e w1 ⟨rfl, q1⟩
    have G := HF.out.r w1 q1
    have GH := Lib.hid G
    obtain ⟨g0, g1, g2, g3, gf⟩ := G
    have gf0 := gf 0
    have gf1 := gf 1
    have gf2 := gf 2
    have gf3 := gf 3
    clear f0 f1 f2 f3 gf
    go_wp2
    refine bodyPost_ret (v := .tuple #[.agg #[.string ⟨#[]⟩, .int .i64 0, .slice none 0 0, .slice none 0 0], .int .i64 8]) ?_ rfl (rres_zero 8 (below_four (DW.out _ q1) (Nat.le_succ _) _ _ _ _))
    rw [results_cell_tmp rfl]
    exact load_tab2 _ _ _ _ (four_zero GH.out) rfl rfl
  | true =>
    rw [if_pos rfl]
    cases hh : Tb.hasId t.rows id with
    | false =>
      obtain ⟨hneg, _⟩ := rowI_neg hh
      simp only [Bool.false_eq_true, if_false]
      obtain ⟨R, hR⟩ : ∃ R, rowI t.rows id = R := ⟨_, rfl⟩
      simp only [hR] at cr1 hneg
      have CR1 := Lib.hid cr1
      clear h F dW cr1 cw hn hm hV hW1 kt hh hR
      go_enter Tryz.func14, Tryz.ntmps14
      go_wp2_with fail
      rw [← HW1.out]
      refine cm.mono ?_
      rintro e w1 ⟨rfl, q1⟩
      clear f0 f1 f2 f3
      obtain ⟨f0, f1, f2, f3, _⟩ := KT.out w1 q1
      have c := CR1.out w1 q1
      go_wp2_with fail
      refine c.mono ?_
      rintro e w2 ⟨rfl, q2⟩
      have d2 := q1.trans (q2.mono q1.size)
      have G := HF.out.r w2 d2
      have GH := Lib.hid G
      obtain ⟨g0, g1, g2, g3, gf⟩ := G
      have gf0 := gf 0
      have gf1 := gf 1
      have gf2 := gf 2
      have gf3 := gf 3
      clear f0 f1 f2 f3 gf c
      go_wp2
      refine bodyPost_ret (v := .tuple #[.agg #[.string ⟨#[]⟩, .int .i64 0, .slice none 0 0, .slice none 0 0], .int .i64 270]) ?_ rfl (rres_zero 270 (below_four (DW.out _ d2) (Nat.le_succ _) _ _ _ _))
      rw [results_cell_tmp rfl]
      exact load_tab2 _ _ _ _ (four_zero GH.out) rfl rfl
    | true =>
      obtain ⟨hneg, _⟩ := rowI_pos hh
      rw [if_pos rfl]
      obtain ⟨R, hR⟩ : ∃ R, rowI t.rows id = R := ⟨_, rfl⟩
      simp only [hR] at cr1 hneg
      obtain ⟨X, hX⟩ : ∃ X, woF id t.rows = X := ⟨_, rfl⟩
      simp only [hX] at cw ⊢
      have cw' := fun W q => (cw W q).mono fun e w' hh => hh.lit hm
      have HM := Lib.hid hm
      have CR1 := Lib.hid cr1
      have CW := Lib.hid cw'
      clear h F dW cr1 cw cw' hn hm hV hW1 kt hh hR hX
      go_enter Tryz.func14, Tryz.ntmps14
      go_wp2_with fail
      rw [← HW1.out]
      refine cm.mono ?_
      rintro e w1 ⟨rfl, q1⟩
      clear f0 f1 f2 f3
      obtain ⟨f0, f1, f2, f3, _⟩ := KT.out w1 q1
      have c := CR1.out w1 q1
      go_wp2_with fail
      refine c.mono ?_
      rintro e w2 ⟨rfl, q2⟩
      clear f0 f1 f2 f3 c
      have d2 := q1.trans (q2.mono q1.size)
      obtain ⟨f0, f1, f2, f3, _⟩ := KT.out w2 d2
      have c := CW.out w2 d2
      have d2s := d2.size
      go_wp2_with fail
      refine c.mono ?_
      rintro e w3 ⟨A3, c3, Ar3, cr3, rfl, ou, orr, q3⟩
      have d3 := d2.trans (q3.mono d2.size)
      have G := HF.out.r w3 d3
      have P := rres_put (x := { t with rows := X }) (g := w.heap.size + 1) 0 rfl rfl HM.out rfl (DW.out _ d3) (Nat.le_succ _) (by have := HF.out.z; omega) ou orr G
      have HP := Lib.hid P
      obtain ⟨g0, g1, g2, g3, gf⟩ := G
      have gf0 := gf 0
      have gf1 := gf 1
      have gf2 := gf 2
      have gf3 := gf 3
      clear f0 f1 f2 f3 gf c P ou orr
      go_wp2
      refine bodyPost_ret (v := .tuple #[.agg #[.string t.name, .int .i64 t.most, .slice A3 m c3, .slice Ar3 X.length cr3], .int .i64 0]) ?_ rfl HP.out.1
      rw [results_cell_tmp rfl]
      exact load_tab2 _ _ _ _ HP.out.2 rfl rfl
end Go.Proofs.YtcgioepbooafcaaGreatDoor
