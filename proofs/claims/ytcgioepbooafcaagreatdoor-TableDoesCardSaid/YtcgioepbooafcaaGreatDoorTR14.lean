/- The reference's Put and Set. Conditions: lengths within the model's. -/
import Derived.Test.YtcgioepbooafcaaGreatDoorTR13
namespace Go.Proofs.YtcgioepbooafcaaGreatDoor
open Go.RowKit
def putQ (t : TabC) (r : RecC) : TabC × Int := if mayT t = true then (if oneR r = true then addedQ t r else (zeroT, 8)) else (zeroT, 8)
def setQ (t : TabC) (r : RecC) : TabC × Int := if mayT t = true then (if oneR r = true then turnedQ t r else (zeroT, 8)) else (zeroT, 8)
theorem RRes.alloc {x : TabC} {E : Int} {w : World} {e : Ending} {W : World} (h : RRes x E w e W) (o : Obj) : RRes x E w e (W.alloc o) := by
  obtain ⟨Au, cu, Ar, cr, h1, h2, h3, h4⟩ := h
  exact ⟨Au, cu, Ar, cr, h1, h2.alloc o, h3.below ((Below.refl W.heap.size W).alloc (Nat.le_refl _) o), h4.alloc h4.size o⟩
theorem both_mk {w : World} {B : Nat} {t : TabC} {Au Ar : Option Addr} {B' : Nat} {r : RecC} {A : Option Addr} {c : Nat} (h : RTab w B t Au Ar) (hr : RRec w B' r A c) (hid : r.id.size ≤ maxLen) (hm : mayT t = true) (ho : oneR r = true) : Both w B t Au Ar B' r A c :=
  ⟨h, fun x hx => by
    obtain ⟨i, hi, rfl⟩ := List.getElem_of_mem hx
    exact oneR_may (((mayQ_iff t).1 hm).2.2.2.2 i hi).1, hr, oneR_may ho, hid⟩
set_option maxRecDepth 100000 in
set_option maxHeartbeats 16000000 in
theorem rput_any (t : TabC) (r : RecC) (Au : Option Addr) (cu : Nat) (Ar : Option Addr) (cr : Nat) (A : Option Addr) (c : Nat) (w : World) {B B' : Nat} (h : RTab w B t Au Ar) (hr : RRec w B' r A c) (hid : r.id.size ≤ maxLen) :
    Calls Tryz.prog 10 #[.agg #[.string t.name, .int .i64 t.most, .slice Au t.us.length cu, .slice Ar t.rows.length cr], .agg #[.string r.id, .slice A r.data.length c]] w fun e w' => RRes (putQ t r).1 (putQ t r).2 w e w' := by
  obtain ⟨W1, hW1⟩ : ∃ W1, W1 = (Box2r w t r Au cu Ar cr A c).alloc (.cells #[.string ⟨#[]⟩, .int .i64 0, .slice none 0 0, .slice none 0 0] 25) := ⟨_, rfl⟩
  have F := f3z_mk w t r Au cu Ar cr A c hW1
  unfold Box2r at hW1
  have HF := Lib.hid F
  have dW : ∀ W, Below W1.heap.size W1 W → Below w.heap.size w W := fun W q => F.b.trans (q.mono F.b.size)
  have DW := Lib.hid dW
  have cmy := fun W (q : Below W1.heap.size W1 W) => rmay_any t Au cu Ar cr W (h.below (dW W q))
  have con := fun W (q : Below W1.heap.size W1 W) => rone_any r A c W (hr.below (dW W q)).inn
  obtain ⟨n, hn⟩ : ∃ n, t.rows.length = n := ⟨_, rfl⟩
  obtain ⟨m, hm⟩ : ∃ m, t.us.length = m := ⟨_, rfl⟩
  have kt : ∀ W, Below W1.heap.size W1 W → Four W w.heap.size (.string t.name) (.int .i64 t.most) (.slice Au m cu) (.slice Ar n cr) := fun W q => by have := F.t W q; rw [hm, hn] at this; exact this
  have KT := Lib.hid kt
  have kr : ∀ W, Below W1.heap.size W1 W → W.cell? ⟨w.heap.size + 1, 0, none⟩ = some (.string r.id) ∧ W.cell? ⟨w.heap.size + 1, 1, none⟩ = some (.slice A r.data.length c) := fun W q => F.r W q
  have KR := Lib.hid kr
  obtain ⟨f0, f1, f2, f3, _⟩ := kt W1 (Below.refl _ _)
  obtain ⟨p0, p1⟩ := kr W1 (Below.refl _ _)
  have z1 := Below.refl W1.heap.size W1
  unfold putQ
  cases hmy : mayT t with
  | false =>
    simp only [Bool.false_eq_true, if_false]
    simp only [hmy, hn, hm] at cmy
    rw [hn, hm] at hW1 ⊢
    have HW1 := Lib.hid hW1
    have CMY := Lib.hid cmy
    clear h hr hid F dW cmy con hn hm kt kr hW1 hmy
    go_enter Tryz.func10, Tryz.ntmps10
    have cc := CMY.out W1 z1
    go_wp2_with fail
    rw [← HW1.out]
    refine cc.mono ?_
    rintro e w2 ⟨rfl, qw2⟩
    clear cc
    have dw2 := qw2
    have G := HF.out.o w2 dw2
    have GH := Lib.hid G
    obtain ⟨g0, g1, g2, g3, gf⟩ := G
    have gf0 := gf 0
    have gf1 := gf 1
    have gf2 := gf 2
    have gf3 := gf 3
    clear gf
    go_wp2
    refine bodyPost_ret (v := .tuple #[.agg #[.string ⟨#[]⟩, .int .i64 0, .slice none 0 0, .slice none 0 0], .int .i64 8]) ?_ rfl (rres_zero 8 (below_four (DW.out _ dw2) (by omega) _ _ _ _))
    rw [results_cell_tmp rfl]
    exact load_tab2 _ _ _ _ (four_zero GH.out) rfl rfl
  | true =>
    rw [if_pos rfl]
    cases hon : oneR r with
    | false =>
      simp only [Bool.false_eq_true, if_false]
      simp only [hmy, hn, hm] at cmy
      simp only [hon] at con
      rw [hn, hm] at hW1 ⊢
      have HW1 := Lib.hid hW1
      have CMY := Lib.hid cmy
      have CON := Lib.hid con
      clear h hr hid F dW cmy con hn hm kt kr hW1 hmy hon
      go_enter Tryz.func10, Tryz.ntmps10
      have cc := CMY.out W1 z1
      go_wp2_with fail
      rw [← HW1.out]
      refine cc.mono ?_
      rintro e w2 ⟨rfl, qw2⟩
      clear cc
      have dw2 := qw2
      clear f0 f1 f2 f3 p0 p1
      obtain ⟨f0, f1, f2, f3, _⟩ := KT.out w2 dw2
      obtain ⟨p0, p1⟩ := KR.out w2 dw2
      have cc := CON.out w2 dw2
      go_wp2_with fail
      refine cc.mono ?_
      rintro e w3 ⟨rfl, qw3⟩
      clear cc
      have dw3 := dw2.trans (qw3.mono dw2.size)
      clear f0 f1 f2 f3 p0 p1
      have G := HF.out.o w3 dw3
      have GH := Lib.hid G
      obtain ⟨g0, g1, g2, g3, gf⟩ := G
      have gf0 := gf 0
      have gf1 := gf 1
      have gf2 := gf 2
      have gf3 := gf 3
      clear gf
      go_wp2
      refine bodyPost_ret (v := .tuple #[.agg #[.string ⟨#[]⟩, .int .i64 0, .slice none 0 0, .slice none 0 0], .int .i64 8]) ?_ rfl (rres_zero 8 (below_four (DW.out _ dw3) (by omega) _ _ _ _))
      rw [results_cell_tmp rfl]
      exact load_tab2 _ _ _ _ (four_zero GH.out) rfl rfl
    | true =>
      rw [if_pos rfl]
      have cad := fun W (q : Below W1.heap.size W1 W) => radded_any t r Au cu Ar cr A c W (both_mk (h.below (dW W q)) (hr.below (dW W q)) hid hmy hon)
      simp only [hmy, hn, hm] at cmy
      simp only [hon] at con
      simp only [hn, hm] at cad
      obtain ⟨x, hx⟩ : ∃ x, (addedQ t r).1 = x := ⟨_, rfl⟩
      obtain ⟨E, hE⟩ : ∃ E, (addedQ t r).2 = E := ⟨_, rfl⟩
      simp only [hx, hE] at cad ⊢
      rw [hn, hm] at hW1 ⊢
      have HW1 := Lib.hid hW1
      have CMY := Lib.hid cmy
      have CON := Lib.hid con
      unfold RRes at cad
      have CAD := Lib.hid cad
      clear h hr hid F dW cmy con cad hn hm kt kr hW1 hmy hon hx hE
      go_enter Tryz.func10, Tryz.ntmps10
      have cc := CMY.out W1 z1
      go_wp2_with fail
      rw [← HW1.out]
      refine cc.mono ?_
      rintro e w2 ⟨rfl, qw2⟩
      clear cc
      have dw2 := qw2
      clear f0 f1 f2 f3 p0 p1
      obtain ⟨f0, f1, f2, f3, _⟩ := KT.out w2 dw2
      obtain ⟨p0, p1⟩ := KR.out w2 dw2
      have cc := CON.out w2 dw2
      go_wp2_with fail
      refine cc.mono ?_
      rintro e w3 ⟨rfl, qw3⟩
      clear cc
      have dw3 := dw2.trans (qw3.mono dw2.size)
      clear f0 f1 f2 f3 p0 p1
      obtain ⟨f0, f1, f2, f3, _⟩ := KT.out w3 dw3
      obtain ⟨p0, p1⟩ := KR.out w3 dw3
      have cc := CAD.out w3 dw3
      go_wp2_with fail
      refine cc.mono ?_
      rintro e w4 ⟨A4, c4, Ar4, cr4, rfl, ou, orr, qw4⟩
      clear cc
      have dw4 := dw3.trans (qw4.mono dw3.size)
      have G := HF.out.o w4 dw4
      have hg4 : w.heap.size + 1 + 1 < w4.heap.size := by have := HF.out.z; have := dw4.size; omega
      have P0 := rres_put (x := x) (g := w.heap.size + 1 + 1) E rfl rfl rfl rfl (DW.out _ dw4) (by omega) (by have := HF.out.z; have := dw3.size; omega) ou orr G
      have P := fun (o : Obj) => And.intro (P0.1.alloc o) (Four.grown P0.2 (World.grownBy_alloc _ o none) (by simp))
      have HP := Lib.hid P
      have n0 := fun (v0 v1 v2 v3 : Value) (T : TypeId) => (Four.new w4 v0 v1 v2 v3 T).c0
      have n1 := fun (v0 v1 v2 v3 : Value) (T : TypeId) => (Four.new w4 v0 v1 v2 v3 T).c1
      have n2 := fun (v0 v1 v2 v3 : Value) (T : TypeId) => (Four.new w4 v0 v1 v2 v3 T).c2
      have n3 := fun (v0 v1 v2 v3 : Value) (T : TypeId) => (Four.new w4 v0 v1 v2 v3 T).c3
      obtain ⟨g0, g1, g2, g3, gf⟩ := G
      have gf0 := gf 0
      have gf1 := gf 1
      have gf2 := gf 2
      have gf3 := gf 3
      clear f0 f1 f2 f3 p0 p1 P ou orr P0 gf
      go_wp2
      refine bodyPost_ret (v := .tuple #[.agg #[.string x.name, .int .i64 x.most, .slice A4 x.us.length c4, .slice Ar4 x.rows.length cr4], .int .i64 E]) ?_ rfl (HP.out _).1
      rw [results_cell_tmp rfl]
      exact load_tab2 _ _ _ _ (HP.out _).2 rfl rfl
set_option maxRecDepth 100000 in
set_option maxHeartbeats 16000000 in
theorem rset_any (t : TabC) (r : RecC) (Au : Option Addr) (cu : Nat) (Ar : Option Addr) (cr : Nat) (A : Option Addr) (c : Nat) (w : World) {B B' : Nat} (h : RTab w B t Au Ar) (hr : RRec w B' r A c) (hid : r.id.size ≤ maxLen) :
    Calls Tryz.prog 12 #[.agg #[.string t.name, .int .i64 t.most, .slice Au t.us.length cu, .slice Ar t.rows.length cr], .agg #[.string r.id, .slice A r.data.length c]] w fun e w' => RRes (setQ t r).1 (setQ t r).2 w e w' := by
  obtain ⟨W1, hW1⟩ : ∃ W1, W1 = (Box2r w t r Au cu Ar cr A c).alloc (.cells #[.string ⟨#[]⟩, .int .i64 0, .slice none 0 0, .slice none 0 0] 25) := ⟨_, rfl⟩
  have F := f3z_mk w t r Au cu Ar cr A c hW1
  unfold Box2r at hW1
  have HF := Lib.hid F
  have dW : ∀ W, Below W1.heap.size W1 W → Below w.heap.size w W := fun W q => F.b.trans (q.mono F.b.size)
  have DW := Lib.hid dW
  have cmy := fun W (q : Below W1.heap.size W1 W) => rmay_any t Au cu Ar cr W (h.below (dW W q))
  have con := fun W (q : Below W1.heap.size W1 W) => rone_any r A c W (hr.below (dW W q)).inn
  obtain ⟨n, hn⟩ : ∃ n, t.rows.length = n := ⟨_, rfl⟩
  obtain ⟨m, hm⟩ : ∃ m, t.us.length = m := ⟨_, rfl⟩
  have kt : ∀ W, Below W1.heap.size W1 W → Four W w.heap.size (.string t.name) (.int .i64 t.most) (.slice Au m cu) (.slice Ar n cr) := fun W q => by have := F.t W q; rw [hm, hn] at this; exact this
  have KT := Lib.hid kt
  have kr : ∀ W, Below W1.heap.size W1 W → W.cell? ⟨w.heap.size + 1, 0, none⟩ = some (.string r.id) ∧ W.cell? ⟨w.heap.size + 1, 1, none⟩ = some (.slice A r.data.length c) := fun W q => F.r W q
  have KR := Lib.hid kr
  obtain ⟨f0, f1, f2, f3, _⟩ := kt W1 (Below.refl _ _)
  obtain ⟨p0, p1⟩ := kr W1 (Below.refl _ _)
  have z1 := Below.refl W1.heap.size W1
  unfold setQ
  cases hmy : mayT t with
  | false =>
    simp only [Bool.false_eq_true, if_false]
    simp only [hmy, hn, hm] at cmy
    rw [hn, hm] at hW1 ⊢
    have HW1 := Lib.hid hW1
    have CMY := Lib.hid cmy
    clear h hr hid F dW cmy con hn hm kt kr hW1 hmy
    go_enter Tryz.func12, Tryz.ntmps12
    have cc := CMY.out W1 z1
    go_wp2_with fail
    rw [← HW1.out]
    refine cc.mono ?_
    rintro e w2 ⟨rfl, qw2⟩
    clear cc
    have dw2 := qw2
    have G := HF.out.o w2 dw2
    have GH := Lib.hid G
    obtain ⟨g0, g1, g2, g3, gf⟩ := G
    have gf0 := gf 0
    have gf1 := gf 1
    have gf2 := gf 2
    have gf3 := gf 3
    clear gf
    go_wp2
    refine bodyPost_ret (v := .tuple #[.agg #[.string ⟨#[]⟩, .int .i64 0, .slice none 0 0, .slice none 0 0], .int .i64 8]) ?_ rfl (rres_zero 8 (below_four (DW.out _ dw2) (by omega) _ _ _ _))
    rw [results_cell_tmp rfl]
    exact load_tab2 _ _ _ _ (four_zero GH.out) rfl rfl
  | true =>
    rw [if_pos rfl]
    cases hon : oneR r with
    | false =>
      simp only [Bool.false_eq_true, if_false]
      simp only [hmy, hn, hm] at cmy
      simp only [hon] at con
      rw [hn, hm] at hW1 ⊢
      have HW1 := Lib.hid hW1
      have CMY := Lib.hid cmy
      have CON := Lib.hid con
      clear h hr hid F dW cmy con hn hm kt kr hW1 hmy hon
      go_enter Tryz.func12, Tryz.ntmps12
      have cc := CMY.out W1 z1
      go_wp2_with fail
      rw [← HW1.out]
      refine cc.mono ?_
      rintro e w2 ⟨rfl, qw2⟩
      clear cc
      have dw2 := qw2
      clear f0 f1 f2 f3 p0 p1
      obtain ⟨f0, f1, f2, f3, _⟩ := KT.out w2 dw2
      obtain ⟨p0, p1⟩ := KR.out w2 dw2
      have cc := CON.out w2 dw2
      go_wp2_with fail
      refine cc.mono ?_
      rintro e w3 ⟨rfl, qw3⟩
      clear cc
      have dw3 := dw2.trans (qw3.mono dw2.size)
      clear f0 f1 f2 f3 p0 p1
      have G := HF.out.o w3 dw3
      have GH := Lib.hid G
      obtain ⟨g0, g1, g2, g3, gf⟩ := G
      have gf0 := gf 0
      have gf1 := gf 1
      have gf2 := gf 2
      have gf3 := gf 3
      clear gf
      go_wp2
      refine bodyPost_ret (v := .tuple #[.agg #[.string ⟨#[]⟩, .int .i64 0, .slice none 0 0, .slice none 0 0], .int .i64 8]) ?_ rfl (rres_zero 8 (below_four (DW.out _ dw3) (by omega) _ _ _ _))
      rw [results_cell_tmp rfl]
      exact load_tab2 _ _ _ _ (four_zero GH.out) rfl rfl
    | true =>
      rw [if_pos rfl]
      have cad := fun W (q : Below W1.heap.size W1 W) => rturned_any t r Au cu Ar cr A c W (both_mk (h.below (dW W q)) (hr.below (dW W q)) hid hmy hon)
      simp only [hmy, hn, hm] at cmy
      simp only [hon] at con
      simp only [hn, hm] at cad
      obtain ⟨x, hx⟩ : ∃ x, (turnedQ t r).1 = x := ⟨_, rfl⟩
      obtain ⟨E, hE⟩ : ∃ E, (turnedQ t r).2 = E := ⟨_, rfl⟩
      simp only [hx, hE] at cad ⊢
      rw [hn, hm] at hW1 ⊢
      have HW1 := Lib.hid hW1
      have CMY := Lib.hid cmy
      have CON := Lib.hid con
      unfold RRes at cad
      have CAD := Lib.hid cad
      clear h hr hid F dW cmy con cad hn hm kt kr hW1 hmy hon hx hE
      go_enter Tryz.func12, Tryz.ntmps12
      have cc := CMY.out W1 z1
      go_wp2_with fail
      rw [← HW1.out]
      refine cc.mono ?_
      rintro e w2 ⟨rfl, qw2⟩
      clear cc
      have dw2 := qw2
      clear f0 f1 f2 f3 p0 p1
      obtain ⟨f0, f1, f2, f3, _⟩ := KT.out w2 dw2
      obtain ⟨p0, p1⟩ := KR.out w2 dw2
      have cc := CON.out w2 dw2
      go_wp2_with fail
      refine cc.mono ?_
      rintro e w3 ⟨rfl, qw3⟩
      clear cc
      have dw3 := dw2.trans (qw3.mono dw2.size)
      clear f0 f1 f2 f3 p0 p1
      obtain ⟨f0, f1, f2, f3, _⟩ := KT.out w3 dw3
      obtain ⟨p0, p1⟩ := KR.out w3 dw3
      have cc := CAD.out w3 dw3
      go_wp2_with fail
      refine cc.mono ?_
      rintro e w4 ⟨A4, c4, Ar4, cr4, rfl, ou, orr, qw4⟩
      clear cc
      have dw4 := dw3.trans (qw4.mono dw3.size)
      have G := HF.out.o w4 dw4
      have hg4 : w.heap.size + 1 + 1 < w4.heap.size := by have := HF.out.z; have := dw4.size; omega
      have P0 := rres_put (x := x) (g := w.heap.size + 1 + 1) E rfl rfl rfl rfl (DW.out _ dw4) (by omega) (by have := HF.out.z; have := dw3.size; omega) ou orr G
      have P := fun (o : Obj) => And.intro (P0.1.alloc o) (Four.grown P0.2 (World.grownBy_alloc _ o none) (by simp))
      have HP := Lib.hid P
      have n0 := fun (v0 v1 v2 v3 : Value) (T : TypeId) => (Four.new w4 v0 v1 v2 v3 T).c0
      have n1 := fun (v0 v1 v2 v3 : Value) (T : TypeId) => (Four.new w4 v0 v1 v2 v3 T).c1
      have n2 := fun (v0 v1 v2 v3 : Value) (T : TypeId) => (Four.new w4 v0 v1 v2 v3 T).c2
      have n3 := fun (v0 v1 v2 v3 : Value) (T : TypeId) => (Four.new w4 v0 v1 v2 v3 T).c3
      obtain ⟨g0, g1, g2, g3, gf⟩ := G
      have gf0 := gf 0
      have gf1 := gf 1
      have gf2 := gf 2
      have gf3 := gf 3
      clear f0 f1 f2 f3 p0 p1 P ou orr P0 gf
      go_wp2
      refine bodyPost_ret (v := .tuple #[.agg #[.string x.name, .int .i64 x.most, .slice A4 x.us.length c4, .slice Ar4 x.rows.length cr4], .int .i64 E]) ?_ rfl (HP.out _).1
      rw [results_cell_tmp rfl]
      exact load_tab2 _ _ _ _ (HP.out _).2 rfl rfl
end Go.Proofs.YtcgioepbooafcaaGreatDoor
