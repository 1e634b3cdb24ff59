/- The reference's Get. Conditions: lengths within the model's. What the reference's Put, Set, Drop answer is what the program's do. Conditions: none. The program's table.Same. Conditions: lengths within the model's. -/
import Derived.Test.YtcgioepbooafcaaGreatDoorTR14
namespace Go.Proofs.YtcgioepbooafcaaGreatDoor
section
open Go.RowKit
theorem idxR_find (p : RecC → Bool) : ∀ (l : List RecC) (j : Nat), (l.find? p = none ∧ idxR p l j = -1) ∨ ∃ k, ∃ h : k < l.length, l.find? p = some l[k] ∧ idxR p l j = ((j + k : Nat) : Int)
  | [], j => .inl ⟨rfl, rfl⟩
  | c :: r, j => by
    cases h : p c with
    | true => exact .inr ⟨0, by simp, by rw [List.find?_cons_of_pos h]; rfl, by rw [idxR, if_pos h]; rfl⟩
    | false =>
      rcases idxR_find p r (j + 1) with ⟨h1, h2⟩ | ⟨k, hk, h1, h2⟩
      · exact .inl ⟨by rw [List.find?_cons_of_neg (by simp [h]), h1], by rw [idxR, if_neg (by simp [h]), h2]⟩
      · refine .inr ⟨k + 1, by simpa using hk, by rw [List.find?_cons_of_neg (by simp [h]), h1]; rfl, ?_⟩
        rw [idxR, if_neg (by simp [h]), h2]
        congr 1
        omega
theorem getT_no {t : TabC} {id : ByteArray} (h : mayT t = false) : getT t id = none := by
  unfold getT
  rw [h]
  rfl
theorem getT_yes {t : TabC} {id : ByteArray} (h : mayT t = true) : getT t id = Tb.getI t.rows id := by
  rw [getT_eq, Tb.get, if_pos ((mayT_iff t).1 h)]
theorem getT_row {t : TabC} {id : ByteArray} (h : mayT t = true) : (getT t id = none ∧ rowI t.rows id = -1) ∨ ∃ k, ∃ hk : k < t.rows.length, getT t id = some t.rows[k] ∧ rowI t.rows id = (k : Int) := by
  rw [getT_yes h]
  rcases idxR_find (isId id) t.rows 0 with ⟨h1, h2⟩ | ⟨k, hk, h1, h2⟩
  · exact .inl ⟨h1, h2⟩
  · exact .inr ⟨k, hk, h1, by rw [rowI, h2]; simp⟩
/-- a table's box and a zero record -/
structure F2r (w W1 : World) (t : TabC) (Au : Option Addr) (cu : Nat) (Ar : Option Addr) (cr : Nat) : Prop where
  b : Below w.heap.size w W1
  z : W1.heap.size = w.heap.size + 1 + 1
  t : ∀ W, Below W1.heap.size W1 W → Four W w.heap.size (.string t.name) (.int .i64 t.most) (.slice Au t.us.length cu) (.slice Ar t.rows.length cr)
  r : ∀ W, Below W1.heap.size W1 W → Pair2 W (w.heap.size + 1) (.string ⟨#[]⟩) (.slice none 0 0) ∧ W.frozen? ⟨w.heap.size + 1, 0, none⟩ = false ∧ W.frozen? ⟨w.heap.size + 1, 1, none⟩ = false
theorem f2r_mk (w : World) (t : TabC) (Au : Option Addr) (cu : Nat) (Ar : Option Addr) (cr : Nat) {W1 : World} (hW : W1 = (w.alloc (.cells #[.string t.name, .int .i64 t.most, .slice Au t.us.length cu, .slice Ar t.rows.length cr] 25)).alloc (.cells #[.string ⟨#[]⟩, .slice none 0 0] 28)) : F2r w W1 t Au cu Ar cr := by
  subst hW
  have hz : ((w.alloc (.cells #[.string t.name, .int .i64 t.most, .slice Au t.us.length cu, .slice Ar t.rows.length cr] 25)).alloc (.cells #[.string ⟨#[]⟩, .slice none 0 0] 28)).heap.size = w.heap.size + 1 + 1 := by simp
  have e : (w.alloc (.cells #[.string t.name, .int .i64 t.most, .slice Au t.us.length cu, .slice Ar t.rows.length cr] 25)).heap.size = w.heap.size + 1 := by simp
  refine ⟨((Below.refl _ _).alloc (Nat.le_refl _) _).alloc (by simp) _, hz, fun W q => ?_, fun W q => ?_⟩
  · have f := (Four.new w (.string t.name) (.int .i64 t.most) (.slice Au t.us.length cu) (.slice Ar t.rows.length cr) 25).below ((Below.refl _ _).alloc (Nat.le_refl _) (.cells #[.string ⟨#[]⟩, .slice none 0 0] 28)) (by simp)
    exact f.below q (by omega)
  · have g := Pair2.new (w.alloc (.cells #[.string t.name, .int .i64 t.most, .slice Au t.us.length cu, .slice Ar t.rows.length cr] 25)) (.string ⟨#[]⟩) (.slice none 0 0) 28
    have z0 := frozen_new (w.alloc (.cells #[.string t.name, .int .i64 t.most, .slice Au t.us.length cu, .slice Ar t.rows.length cr] 25)) #[.string ⟨#[]⟩, .slice none 0 0] 28 0
    have z1 := frozen_new (w.alloc (.cells #[.string t.name, .int .i64 t.most, .slice Au t.us.length cu, .slice Ar t.rows.length cr] 25)) #[.string ⟨#[]⟩, .slice none 0 0] 28 1
    rw [e] at g z0 z1
    exact ⟨g.below q (by omega), (q.frozen (p := ⟨w.heap.size + 1, 0, none⟩) (by simp)).trans z0, (q.frozen (p := ⟨w.heap.size + 1, 1, none⟩) (by simp)).trans z1⟩
set_option maxRecDepth 100000 in
set_option maxHeartbeats 16000000 in
theorem rget_any (t : TabC) (id : ByteArray) (Au : Option Addr) (cu : Nat) (Ar : Option Addr) (cr : Nat) (w : World) {B : Nat} (h : RTab w B t Au Ar) :
    Calls Tryz.prog 8 #[.agg #[.string t.name, .int .i64 t.most, .slice Au t.us.length cu, .slice Ar t.rows.length cr], .string id] w fun e w' => GetPost ((getT t id).getD zeroR) (getT t id).isSome w e w' := by
  obtain ⟨W1, hW1⟩ : ∃ W1, W1 = (w.alloc (.cells #[.string t.name, .int .i64 t.most, .slice Au t.us.length cu, .slice Ar t.rows.length cr] 25)).alloc (.cells #[.string ⟨#[]⟩, .slice none 0 0] 28) := ⟨_, rfl⟩
  have F := f2r_mk w t Au cu Ar cr hW1
  have HF := Lib.hid F
  have dW : ∀ W, Below W1.heap.size W1 W → Below w.heap.size w W := fun W q => F.b.trans (q.mono F.b.size)
  have DW := Lib.hid dW
  have cm := rmay_any t Au cu Ar cr W1 (h.below F.b)
  have crw := fun W (q : Below W1.heap.size W1 W) => rrow_any t id Au cu Ar cr W (h.below (dW W q))
  have hgt : mayT t = true → _ := fun hm => getT_row (t := t) (id := id) hm
  have hgn : mayT t = false → _ := fun hm => getT_no (t := t) (id := id) hm
  have HH := Lib.hid h
  obtain ⟨n, hn⟩ : ∃ n, t.rows.length = n := ⟨_, rfl⟩
  obtain ⟨m, hm⟩ : ∃ m, t.us.length = m := ⟨_, rfl⟩
  have kt : ∀ W, Below W1.heap.size W1 W → Four W w.heap.size (.string t.name) (.int .i64 t.most) (.slice Au m cu) (.slice Ar n cr) := fun W q => by have := F.t W q; rw [hm, hn] at this; exact this
  have KT := Lib.hid kt
  unfold GetPost
  obtain ⟨V, hV⟩ : ∃ V, mayT t = V := ⟨_, rfl⟩
  simp only [hV] at cm hgt hgn
  simp only [hn, hm] at crw
  rw [hn, hm] at cm hW1 ⊢
  have HW1 := Lib.hid hW1
  have HN := Lib.hid hn
  obtain ⟨f0, f1, f2, f3, _⟩ := kt W1 (Below.refl _ _)
  have NIL : ∀ W, Below W1.heap.size W1 W → ∃ A c, Ending.returned (.tuple #[.agg #[.string ⟨#[]⟩, .slice none 0 0], .bool false]) = Ending.returned (.tuple #[.agg #[.string zeroR.id, .slice A zeroR.data.length c], .bool false]) ∧ ((W.setCell ⟨w.heap.size + 1, 0, none⟩ (.string ⟨#[]⟩)).setCell ⟨w.heap.size + 1, 1, none⟩ (.slice none 0 0)).ownsRow w.heap.size 47 5 (.slice A zeroR.data.length c) zeroR.data.length (cv zeroR.data) ∧ Below w.heap.size w ((W.setCell ⟨w.heap.size + 1, 0, none⟩ (.string ⟨#[]⟩)).setCell ⟨w.heap.size + 1, 1, none⟩ (.slice none 0 0)) := fun W q =>
    ⟨none, 0, rfl, World.ownsRow_nil _ _ _ _, ((dW W q).setCell (by exact Nat.le_succ _) _).setCell (by exact Nat.le_succ _) _⟩
  have HNIL := Lib.hid NIL
  clear h F dW hn hm hV hW1 kt NIL
  cases V with
  | false =>
    have hg := hgn rfl
    rw [hg]
    have CRW := crw
    clear hg hgt hgn crw CRW
    go_enter Tryz.func8, Tryz.ntmps8
    go_wp2_with fail
    rw [← HW1.out]
    refine cm.mono ?_
    rintro e w1 ⟨rfl, q1⟩
    obtain ⟨⟨g0, g1⟩, gf0, gf1⟩ := HF.out.r w1 q1
    have hh0 := Lib.hid (And.intro g0 g1)
    clear f0 f1 f2 f3
    go_wp2
    refine bodyPost_ret (v := .tuple #[.agg #[.string ⟨#[]⟩, .slice none 0 0], .bool false]) ?_ rfl (HNIL.out w1 q1)
    rw [results_cell_tmp rfl]
    exact load_rec2 _ _ _ _ _ _ (by rw [World.cell?_setCell_other _ _ _ _ (by simp)]; exact World.cell?_setCell_same _ _ _ hh0.out.1) (World.cell?_setCell_same _ _ _ ((World.cell?_setCell_other _ _ _ _ (by simp)).trans hh0.out.2)) ⟨_, rfl⟩ ⟨_, _, _, rfl⟩ rfl rfl
  | true =>
    have hg := hgt rfl
    clear hgt hgn
    rcases hg with ⟨hg, hR⟩ | ⟨k, hk, hg, hR⟩
    · rw [hg]
      simp only [hR] at crw
      have CRW := Lib.hid crw
      clear hg hR crw
      go_enter Tryz.func8, Tryz.ntmps8
      go_wp2_with fail
      rw [← HW1.out]
      refine cm.mono ?_
      rintro e w1 ⟨rfl, q1⟩
      clear f0 f1 f2 f3
      obtain ⟨f0, f1, f2, f3, _⟩ := KT.out w1 q1
      have cc := CRW.out w1 q1
      go_wp2_with fail
      refine cc.mono ?_
      rintro e w2 ⟨rfl, q2⟩
      have d2 := q1.trans (q2.mono q1.size)
      obtain ⟨⟨g0, g1⟩, gf0, gf1⟩ := HF.out.r w2 d2
      have hh0 := Lib.hid (And.intro g0 g1)
      clear f0 f1 f2 f3 cc
      go_wp2
      refine bodyPost_ret (v := .tuple #[.agg #[.string ⟨#[]⟩, .slice none 0 0], .bool false]) ?_ rfl (HNIL.out w2 d2)
      rw [results_cell_tmp rfl]
      exact load_rec2 _ _ _ _ _ _ (by rw [World.cell?_setCell_other _ _ _ _ (by simp)]; exact World.cell?_setCell_same _ _ _ hh0.out.1) (World.cell?_setCell_same _ _ _ ((World.cell?_setCell_other _ _ _ _ (by simp)).trans hh0.out.2)) ⟨_, rfl⟩ ⟨_, _, _, rfl⟩ rfl rfl
    · rw [hg]
      simp only [hR] at crw
      simp only [Option.getD_some, Option.isSome_some]
      have CRW := Lib.hid crw
      have hkI : (k : Int) < n := by have := HN.out; omega
      obtain ⟨b, off, rfl, hrw⟩ := HH.out.rowsAt (by omega)
      obtain ⟨A2, c2, r0, r1, rr⟩ := hrw w (Below.refl _ _) k hk
      have hbb := World.block_lt_of_cell? _ ⟨b, off + k * 2, none⟩ r0
      have ct := fun W (q : Below W1.heap.size W1 W) => (rtwin_any t.rows[k] A2 c2 W (rr.below (DW.out W q)).inn.rd (rr.below (DW.out W q)).inn.le rr.inn.len)
      obtain ⟨x, hx⟩ : ∃ x, t.rows[k] = x := ⟨_, rfl⟩
      rw [hx] at r0 r1 ⊢
      simp only [hx] at ct
      have kF : ∀ W, Below (w.heap.size + 1) W1 W → W.cell? ⟨w.heap.size, 0, none⟩ = some (.string t.name) ∧ W.cell? ⟨w.heap.size, 1, none⟩ = some (.int .i64 t.most) ∧ W.cell? ⟨w.heap.size, 2, none⟩ = some (.slice Au m cu) ∧ W.cell? ⟨w.heap.size, 3, none⟩ = some (.slice (some ⟨b, off, none⟩) n cr) ∧ W.cell? ⟨b, off + k * 2, none⟩ = some (.string x.id) ∧ W.cell? ⟨b, off + k * 2 + 1, none⟩ = some (.slice A2 x.data.length c2) := fun W q => by
        have f := (KT.out W1 (Below.refl _ _)).below q (by omega)
        have q' := DW.out W1 (Below.refl _ _)
        exact ⟨f.c0, f.c1, f.c2, f.c3, (q.cell (p := ⟨b, off + k * 2, none⟩) (show b < w.heap.size + 1 by have : b < w.heap.size := hbb; omega)).trans ((q'.cell (p := ⟨b, off + k * 2, none⟩) hbb).trans r0), (q.cell (p := ⟨b, off + k * 2 + 1, none⟩) (show b < w.heap.size + 1 by have : b < w.heap.size := hbb; omega)).trans ((q'.cell (p := ⟨b, off + k * 2 + 1, none⟩) hbb).trans r1)⟩
      unfold TwinPost at ct
      have CT := Lib.hid ct
      have KF := Lib.hid kF
      clear hg hR crw hrw rr hbb ct hx kF r0 r1
      go_enter Tryz.func8, Tryz.ntmps8
      go_wp2_with fail
      rw [← HW1.out]
      refine cm.mono ?_
      rintro e w1 ⟨rfl, q1⟩
      clear f0 f1 f2 f3
      obtain ⟨f0, f1, f2, f3, _⟩ := KT.out w1 q1
      have cc := CRW.out w1 q1
      go_wp2_with fail
      refine cc.mono ?_
      rintro e w2 ⟨rfl, q2⟩
      have d2 := q1.trans (q2.mono q1.size)
      clear f0 f1 f2 f3 cc
      have hk0 : decide ((k : Int) < 0) = false := by simp
      go_upto_region 3 with fail
      have hz1 : w.heap.size + 1 ≤ W1.heap.size := by have := HF.out.z; omega
      have hz1' : w.heap.size + 1 < W1.heap.size := by have := HF.out.z; omega
      have e2 : Below (w.heap.size + 1) W1 w2 := d2.mono hz1
      obtain ⟨f0, f1, f2, f3, r0, r1⟩ := KF.out w2 e2
      go_region_held3 (fun W => W.cell? ⟨w.heap.size, 0, none⟩ = some (.string t.name) ∧ W.cell? ⟨w.heap.size, 1, none⟩ = some (.int .i64 t.most) ∧ W.cell? ⟨w.heap.size, 2, none⟩ = some (.slice Au m cu) ∧ W.cell? ⟨w.heap.size, 3, none⟩ = some (.slice (some ⟨b, off, none⟩) n cr) ∧ W.cell? ⟨b, off + k * 2, none⟩ = some (.string x.id) ∧ W.cell? ⟨b, off + k * 2 + 1, none⟩ = some (.slice A2 x.data.length c2))
        (exact KF.out _ (by repeat (first | assumption | exact Below.refl _ _ | refine Below.drew ?_ | refine Below.alloc ?_ (by first | assumption | exact Nat.le_refl _ | omega | (simp; done) | (simp; omega)) _ | refine Below.setCell ?_ (by first | assumption | exact Nat.le_refl _ | omega | (simp; done) | (simp; omega)) _)))
        (first
          | (go_at_call 27; (with_reducible refine (CRW.out _ ?_).mono ?_); exact (by repeat (first | assumption | exact Below.refl _ _ | refine Below.drew ?_ | refine Below.alloc ?_ (by first | assumption | exact Nat.le_refl _ | omega | (simp; done) | (simp; omega)) _ | refine Below.setCell ?_ (by first | assumption | exact Nat.le_refl _ | omega | (simp; done) | (simp; omega)) _)); rintro e w5 ⟨rfl, hb5⟩; have hp5 : Below W1.heap.size W1 w5 := Below.trans (b := w2.drew) (by repeat (first | assumption | exact Below.refl _ _ | refine Below.drew ?_ | refine Below.alloc ?_ (by first | assumption | exact Nat.le_refl _ | omega | (simp; done) | (simp; omega)) _ | refine Below.setCell ?_ (by first | assumption | exact Nat.le_refl _ | omega | (simp; done) | (simp; omega)) _)) (hb5.mono (by have := d2.size; simp; omega)); have hq5 : Below (w.heap.size + 1) W1 w5 := hp5.mono hz1)
          | (go_at_call 23; (with_reducible refine (CT.out _ ?_).mono ?_); exact (by repeat (first | assumption | exact Below.refl _ _ | refine Below.drew ?_ | refine Below.alloc ?_ (by first | assumption | exact Nat.le_refl _ | omega | (simp; done) | (simp; omega)) _ | refine Below.setCell ?_ (by first | assumption | exact Nat.le_refl _ | omega | (simp; done) | (simp; omega)) _)); rintro e w7 ⟨A7, c7, rfl, ho7, hb7⟩; have hp7 : Below W1.heap.size W1 w7 := hp5.trans (hb7.mono hp5.size); have hq7 : Below (w.heap.size + 1) W1 w7 := hp7.mono hz1; obtain ⟨⟨g0, g1⟩, gf0, gf1⟩ := HF.out.r w7 hp7))
      have hh0 := Lib.hid (And.intro g0 g1)
      have P := rec_put (id := x.id) (DW.out _ hp7) g0 g1 (own_base ho7 (by have := HF.out.z; have := hp5.size; first | omega | (simp; omega))) (Nat.le_succ w.heap.size)
      have HP := Lib.hid P
      clear P
      go_wp2
      refine bodyPost_ret (v := .tuple #[.agg #[.string x.id, .slice A7 x.data.length c7], .bool true]) ?_ rfl ⟨A7, c7, rfl, HP.out.2.1, HP.out.2.2⟩
      rw [results_cell_tmp rfl]
      exact load_rec2 _ _ _ _ _ _ (by rw [World.cell?_setCell_other _ _ _ _ (by simp)]; exact World.cell?_setCell_same _ _ _ hh0.out.1) (World.cell?_setCell_same _ _ _ ((World.cell?_setCell_other _ _ _ _ (by simp)).trans hh0.out.2)) ⟨_, rfl⟩ ⟨_, _, _, rfl⟩ rfl rfl
end
section
open Go.RowKit
theorem wiF_true (r : RecC) : ∀ l : List RecC, wiF r true l = l
  | [] => rfl
  | x :: l => by
    rw [wiF, if_neg (by simp), wiF_true r l]
theorem wiF_ins (r : RecC) : ∀ l : List RecC, (∀ x ∈ l, x.id ≠ r.id) → wiF r false l = Tb.ins ordC l r
  | [], _ => rfl
  | x :: l, h => by
    have hx := h x (by simp)
    have ih := wiF_ins r l fun y hy => h y (by simp [hy])
    unfold Tb.ins
    rw [wiF]
    cases g : slt r.id x.id with
    | true =>
      have hn : slt x.id r.id = false := slt_asymm _ _ g
      rw [if_pos (by simp), wiF_true, List.takeWhile_cons_of_neg (by show ¬ slt x.id r.id = true; simp [hn]), List.dropWhile_cons_of_neg (by show ¬ slt x.id r.id = true; simp [hn])]
      rfl
    | false =>
      have hp : slt x.id r.id = true := by
        cases g2 : slt x.id r.id with
        | true => rfl
        | false => exact absurd (slt_total _ _ g2 g) hx
      rw [if_neg (by simp), List.takeWhile_cons_of_pos (by show slt x.id r.id = true; exact hp), List.dropWhile_cons_of_pos (by show slt x.id r.id = true; exact hp), ih]
      rfl
theorem woF_del (id : ByteArray) (l : List RecC) : woF id l = Tb.delR l id := rfl
theorem wi_wo {l : List RecC} {r : RecC} (hs : Tb.S ordC l) (hh : Tb.hasId l r.id = true) : wiF r false (woF r.id l) = Tb.setR l r := by
  have hn : ∀ x ∈ Tb.delR l r.id, x.id ≠ r.id := fun x hx => (Tb.mem_del.1 hx).2
  rw [woF_del, wiF_ins r _ hn]
  refine Tb.S_ext (O := ordC) (Tb.S_ins (Tb.S_del hs) hn) (Tb.S_set hs) fun x => ?_
  rw [Tb.mem_ins, Tb.mem_set hh, Tb.mem_del]
theorem dropQ_eq (t : TabC) (id : ByteArray) : dropQ t id = dropT t id := by
  rw [dropT_eq]
  unfold dropQ Tb.drop
  by_cases hm : mayT t = true
  · rw [if_pos hm, if_pos ((mayT_iff t).1 hm)]
    by_cases h : Tb.hasId t.rows id = true
    · rw [if_pos h, if_neg (show ¬ Tb.hasId t.rows id = false from by rw [h]; simp)]; rfl
    · rw [if_neg h, if_pos (show Tb.hasId t.rows id = false from by simpa using h)]; rfl
  · rw [if_neg hm, if_neg fun h => hm ((mayT_iff t).2 h)]; rfl
theorem putQ_eq (t : TabC) (r : RecC) : putQ t r = putT t r := by
  rw [putT_eq]
  unfold putQ addedQ Tb.put
  by_cases hm : mayT t = true
  · have hM := (mayT_iff t).1 hm
    rw [if_pos hm, if_pos hM]
    by_cases h1 : oneR r = true
    · rw [if_pos h1, if_pos (show ordC.one r = true from h1)]
      by_cases h2 : Tb.hasId t.rows r.id = true
      · rw [if_pos h2, if_pos (show Tb.hasId t.rows r.id = true ∨ Tb.clashes ordC t r = true from .inl h2)]; rfl
      · rw [if_neg h2]
        by_cases h3 : Tb.clashes ordC t r = true
        · rw [if_pos h3, if_pos (show Tb.hasId t.rows r.id = true ∨ Tb.clashes ordC t r = true from .inr h3)]; rfl
        · rw [if_neg h3, if_neg (show ¬ (Tb.hasId t.rows r.id = true ∨ Tb.clashes ordC t r = true) from by rintro (h | h); exact h2 h; exact h3 h)]
          have hl := hM.len
          by_cases h4 : t.most ≤ t.rows.length
          · rw [if_pos h4, if_pos (show (t.rows.length : Int) = t.most by omega)]; rfl
          · rw [if_neg h4, if_neg (show ¬ (t.rows.length : Int) = t.most by omega), wiF_ins r _ (Tb.hasId_false.1 (by simpa using h2))]
    · rw [if_neg h1, if_neg (show ¬ ordC.one r = true from h1)]; rfl
  · rw [if_neg hm, if_neg fun h => hm ((mayT_iff t).2 h)]; rfl
theorem setQ_eq (t : TabC) (r : RecC) : setQ t r = setT t r := by
  rw [setT_eq]
  unfold setQ turnedQ Tb.set
  by_cases hm : mayT t = true
  · have hM := (mayT_iff t).1 hm
    rw [if_pos hm, if_pos hM]
    by_cases h1 : oneR r = true
    · rw [if_pos h1, if_pos (show ordC.one r = true from h1)]
      by_cases h2 : Tb.hasId t.rows r.id = true
      · rw [if_pos h2, if_neg (show ¬ Tb.hasId t.rows r.id = false from by rw [h2]; simp)]
        by_cases h3 : Tb.clashes ordC t r = true
        · rw [if_pos h3, if_pos h3]; rfl
        · rw [if_neg h3, if_neg h3, wi_wo hM.s h2]
      · rw [if_neg h2, if_pos (show Tb.hasId t.rows r.id = false from by simpa using h2)]; rfl
    · rw [if_neg h1, if_neg (show ¬ ordC.one r = true from h1)]; rfl
  · rw [if_neg hm, if_neg fun h => hm ((mayT_iff t).2 h)]; rfl
end
section
open Go.RowKit
set_option maxHeartbeats 1000000 in
theorem equalS_any (A B : Option Addr) (c d : Nat) (xs ys : List ByteArray) (w : World) {E : Nat} (hx : Rd w E A (sv xs)) {F : Nat} (hy : Rd w F B (sv ys)) (hn : xs.length ≤ maxLen) :
    Calls Tryz.prog 43 #[.slice A xs.length c, .slice B ys.length d] w fun e w' => e = .returned (.bool (decide (xs = ys))) ∧ ∃ n, w' = w.drewN n := by
  unfold maxLen at hn
  by_cases hl : xs.length = ys.length
  · have h1 : ((xs.length : Int) != ys.length) = false := by simp [hl]
    have HL := Lib.hid hl
    clear hl
    go_enter Tryz.func43, Tryz.ntmps43
    go_wp2
    clear h1
    go_loopw [13] (fun i wr => ∃ k q : Nat, k ≤ xs.length ∧ i = .int .i64 k ∧ xs.take k = ys.take k ∧ wr = w.drewN q) (fun i _ => xs.length - (intOf i).toNat)
    case atStart => exact ⟨0, 0, Nat.zero_le _, rfl, rfl, rfl⟩
    case round =>
      obtain ⟨k, q, hk, rfl, he, rfl⟩ := hrel
      have HE := Lib.hid he
      clear he
      by_cases hlt : k < xs.length
      · have hlt2 : k < ys.length := by have := HL.out; omega
        obtain ⟨b, off, rfl, hb, hc⟩ := hx.str hlt
        obtain ⟨b2, off2, rfl, hb2, hc2⟩ := hy.str hlt2
        have c1 := hc k hlt
        have c2 := hc2 k hlt2
        clear hc hc2 hx hy
        go_wp2
        go_quiet (fail)
        go_wp2
        · have h1 : (!xs[k].toList == ys[k].toList) = true := by assumption
          go_ret
          refine ⟨ret_bool ?_, ex_drew⟩
          rw [eq_comm, decide_eq_false_iff_not]
          intro e
          rw [ba_beq] at h1
          simp [e] at h1
        · have h1 : (!xs[k].toList == ys[k].toList) = false := by assumption
          rw [ba_beq] at h1
          exact ⟨⟨k + 1, _, hlt, by go_num, otake_eq hlt hlt2 HE.out (by simpa using h1), rfl⟩, by simp [intOf]; omega⟩
      · have hk' : k = xs.length := by omega
        have HS : Hid (decide (xs = ys) = true) := by
          have he := HE.out
          rw [List.take_of_length_le (by omega), List.take_of_length_le (by rw [← HL.out]; omega)] at he
          exact decide_eq_true he
        clear hk'
        go_wp2
        go_ret
        exact ⟨ret_bool HS.out.symm, ex_drew0⟩
  · have h1 : ((xs.length : Int) != ys.length) = true := by rw [bne_iff_ne]; omega
    have HS : Hid (decide (xs = ys) = false) := decide_eq_false (fun e => hl (by rw [e]))
    clear hl
    go_enter Tryz.func43, Tryz.ntmps43
    go_wp2
    go_ret
    exact ⟨ret_bool HS.out.symm, ex_same⟩
set_option maxHeartbeats 2000000 in
theorem same1_any (a b : RecC) (A A' : Option Addr) (c c' : Nat) (w : World) {B B' : Nat} (ha : Rd w B A (cv a.data)) (hb : Rd w B' A' (cv b.data)) (hB : B ≤ w.heap.size) (hB' : B' ≤ w.heap.size) (hn : a.data.length ≤ 1000000000) :
    Calls Tryz.prog 45 #[.agg #[.string a.id, .slice A a.data.length c], .agg #[.string b.id, .slice A' b.data.length c']] w fun e w' => e = .returned (.bool (sameR a b)) ∧ Below w.heap.size w w' := by
  obtain ⟨W1, hW1⟩ : ∃ W1, W1 = (w.alloc (.cells #[.string a.id, .slice A a.data.length c] 28)).alloc (.cells #[.string b.id, .slice A' b.data.length c'] 28) := ⟨_, rfl⟩
  have hw1 : Below w.heap.size w W1 := by rw [hW1]; exact ((Below.refl _ _).alloc (Nat.le_refl _) _).alloc (by simp) _
  have cs := same_any A A' c c' W1 (ha.thru hw1 hB) (hb.thru hw1 hB') (Nat.le_trans hB hw1.size) (Nat.le_trans hB' hw1.size) hn
  have HB := Lib.hid hw1
  have hid : (a.id.toList == b.id.toList) = decide (a.id = b.id) := by
    rw [Bool.eq_iff_iff, beq_iff_eq, decide_eq_true_iff]
    exact ⟨fun e => ba_ext e, fun e => by rw [e]⟩
  unfold sameR
  obtain ⟨V, hV⟩ : ∃ V, sameC a.data b.data = V := ⟨_, rfl⟩
  obtain ⟨n, hN⟩ : ∃ n, a.data.length = n := ⟨_, rfl⟩
  obtain ⟨m, hM⟩ : ∃ m, b.data.length = m := ⟨_, rfl⟩
  rw [hV] at cs ⊢
  rw [hN, hM] at cs hW1 ⊢
  clear ha hb hw1 hV hN hM
  cases hd : decide (a.id = b.id) with
  | true =>
    rw [hd] at hid
    simp only [Bool.true_and]
    clear hd
    subst hW1
    go_enter Tryz.func45, Tryz.ntmps45
    go_wp2_with fail
    refine cs.mono ?_
    rintro e w1 ⟨rfl, hb1⟩
    go_wp2
    go_ret
    exact ⟨rfl, HB.out.trans (hb1.mono HB.out.size)⟩
  | false =>
    rw [hd] at hid
    simp only [Bool.false_and]
    clear hd
    subst hW1
    go_enter Tryz.func45, Tryz.ntmps45
    go_wp2
    go_ret
    exact ⟨rfl, HB.out⟩
theorem enter_same1 (args : Array Value) (w : World) : (callFunc 45 args).run Tryz.prog w = .ok (.enter 45 args) w :=
  enter_of Tryz.func45 (by kernel_rfl) rfl args w
set_option maxRecDepth 100000 in
set_option maxHeartbeats 4000000 in
theorem equalR_any (xs ys : List RecC) (A A' : Option Addr) (c c' : Nat) (w : World) {B B' : Nat} (hx : Recs w B A xs) (hy : Recs w B' A' ys) (hB : B ≤ w.heap.size) (hB' : B' ≤ w.heap.size) (hn : xs.length ≤ 1000) (hl : ∀ r ∈ xs, r.data.length ≤ 1000000000) :
    Calls Tryz.prog 44 #[.slice A xs.length c, .slice A' ys.length c', .func (.func 45) #[] #[]] w fun e w' => e = .returned (.bool (sameRs xs ys)) ∧ Below w.heap.size w w' := by
  by_cases hlen : xs.length = ys.length
  · obtain ⟨V, hV⟩ : ∃ V, sameRs xs ys = V := ⟨_, rfl⟩
    rw [hV]
    obtain ⟨n, hN⟩ : ∃ n, ys.length = n := ⟨_, rfl⟩
    have HH := Lib.hid (And.intro hx (And.intro hy (And.intro hl (And.intro hlen (And.intro hN hV)))))
    rw [hN] at hlen ⊢
    rw [hlen] at hn ⊢
    clear hx hy hl hlen hN hV
    go_enter Tryz.func44, Tryz.ntmps44
    go_wp2
    go_loopw [17] (fun i wr => ∃ k : Nat, k ≤ n ∧ i = .int .i64 k ∧ sameRs (xs.drop k) (ys.drop k) = V ∧ Below w.heap.size w wr) (fun i _ => n - (intOf i).toNat)
    case atStart => exact ⟨0, Nat.zero_le _, rfl, by rw [List.drop_zero, List.drop_zero]; exact HH.out.2.2.2.2.2, Below.refl _ _⟩
    case round =>
      obtain ⟨k, hk, rfl, hd, hb⟩ := hrel
      obtain ⟨hx, hy, hl, hlen, hN, hV⟩ := HH.out
      by_cases hlt : k < n
      · have h1 : k < xs.length := by omega
        have h2 : k < ys.length := by omega
        have hkI : (k : Int) < n := by omega
        rw [sameRs_drop h1 h2] at hd
        obtain ⟨b, off, A2, c2, rfl, hbl, k0, k1, hri⟩ := (hx.thru hb hB).at' h1
        obtain ⟨b2, off2, A3, c3, rfl, hbl2, m0, m1, hri2⟩ := (hy.thru hb hB').at' h2
        have hcall := fun W (q : Below wr.heap.size wr W) => same1_any xs[k] ys[k] A2 A3 c2 c3 W (hri.rd.thru q (Nat.le_trans hB hb.size)) (hri2.rd.thru q (Nat.le_trans hB' hb.size)) (Nat.le_trans (Nat.le_trans hB hb.size) q.size) (Nat.le_trans (Nat.le_trans hB' hb.size) q.size) (hl _ (List.getElem_mem h1))
        obtain ⟨x, hxk⟩ : ∃ x, xs[k] = x := ⟨_, rfl⟩
        obtain ⟨y, hyk⟩ : ∃ y, ys[k] = y := ⟨_, rfl⟩
        rw [hxk] at k0 k1 hd
        rw [hyk] at m0 m1 hd
        simp only [hxk, hyk] at hcall
        obtain ⟨R, hR⟩ : ∃ R, sameR x y = R := ⟨_, rfl⟩
        rw [hR] at hd
        simp only [hR] at hcall
        have hbs : b2 < wr.heap.size := World.block_lt_of_cell? _ ⟨b2, off2 + k * 2, none⟩ m0
        have HD := Lib.hid hd
        have HCL := Lib.hid hcall
        clear hx hy hl hlen hN hV hri hri2 hcall hxk hyk hR hd
        go_wp2_with fail
        refine (HCL.out _ ?_).mono ?_
        · exact (by repeat (first | assumption | exact Below.refl _ _ | refine Below.drew ?_ | refine Below.alloc ?_ (by first | assumption | exact Nat.le_refl _ | omega | (simp; done) | (simp; omega)) _ | refine Below.setCell ?_ (by first | assumption | exact Nat.le_refl _ | omega | (simp; done) | (simp; omega)) _))
        rintro e w3 ⟨rfl, hb3⟩
        have hq3 : Below wr.heap.size wr w3 := Below.trans (by repeat (first | assumption | exact Below.refl _ _ | refine Below.drew ?_ | refine Below.alloc ?_ (by first | assumption | exact Nat.le_refl _ | omega | (simp; done) | (simp; omega)) _ | refine Below.setCell ?_ (by first | assumption | exact Nat.le_refl _ | omega | (simp; done) | (simp; omega)) _)) (hb3.mono (by simp; omega))
        cases R with
        | true =>
          have hd := HD.out
          rw [Bool.true_and] at hd
          have HD2 := Lib.hid hd
          clear hd
          go_wp2
          go_roundw
          case rel => exact ⟨k + 1, hlt, by go_num, HD2.out, hb.trans (hq3.mono hb.size)⟩
          case measure => simp [intOf]; omega
        | false =>
          obtain rfl : V = false := by have := HD.out; rw [Bool.false_and] at this; exact this.symm
          go_wp2
          go_ret
          exact ⟨rfl, hb.trans (hq3.mono hb.size)⟩
      · obtain rfl : k = n := by omega
        rw [List.drop_of_length_le (by omega), List.drop_of_length_le (by omega)] at hd
        have hv2 : V = true := hd.symm
        have HZ := Lib.hid hv2
        have hltd : decide ((k : Int) < k) = false := by simp
        clear hd hv2 hx hy hl hlen hN hV
        go_wp2
        go_ret
        exact ⟨ret_bool HZ.out.symm, hb⟩
  · have h1 : ((xs.length : Int) != ys.length) = true := by rw [bne_iff_ne]; omega
    have HS : Hid (sameRs xs ys = false) := Lib.hid (sameRs_ne hlen)
    clear hlen
    go_enter Tryz.func44, Tryz.ntmps44
    go_wp2
    go_ret
    exact ⟨ret_bool HS.out.symm, Below.refl _ _⟩
set_option maxRecDepth 100000 in
set_option maxHeartbeats 8000000 in
theorem tsame_any (t x : TabC) (Au : Option Addr) (cu : Nat) (Ar : Option Addr) (cr : Nat) (Bu : Option Addr) (du : Nat) (Br : Option Addr) (dr : Nat) (w : World) {B B' : Nat} (h : TabIn w B t Au Ar) (h' : TabIn w B' x Bu Br) (hrl : t.rows.length ≤ 1000) :
    Calls Tryz.prog 19 #[.agg #[.string t.name, .int .i64 t.most, .slice Au t.us.length cu, .slice Ar t.rows.length cr], .agg #[.string x.name, .int .i64 x.most, .slice Bu x.us.length du, .slice Br x.rows.length dr]] w fun e w' => e = .returned (.bool (sameT t x)) ∧ Below w.heap.size w w' := by
  obtain ⟨W1, hW1⟩ : ∃ W1, W1 = Box2 w t x Au cu Ar cr Bu du Br dr := ⟨_, rfl⟩
  have hw1 : Below w.heap.size w W1 := by rw [hW1]; exact ((Below.refl _ _).alloc (Nat.le_refl _) _).alloc (by simp) _
  have hz1 : W1.heap.size = w.heap.size + 1 + 1 := by rw [hW1]; simp [Box2]
  have k0 : ∀ W, Below W1.heap.size W1 W → Four W w.heap.size (.string t.name) (.int .i64 t.most) (.slice Au t.us.length cu) (.slice Ar t.rows.length cr) := fun W q => by
    refine Four.below (W := W1) ?_ q (by omega)
    rw [hW1]
    exact (Four.new w _ _ _ _ _).grown (World.grownBy_alloc _ _ none) (by simp)
  have k1 : ∀ W, Below W1.heap.size W1 W → Four W (w.heap.size + 1) (.string x.name) (.int .i64 x.most) (.slice Bu x.us.length du) (.slice Br x.rows.length dr) := fun W q => by
    refine Four.below (W := W1) ?_ q (by omega)
    have g := Four.new (w.alloc (.cells #[.string t.name, .int .i64 t.most, .slice Au t.us.length cu, .slice Ar t.rows.length cr] 25)) (.string x.name) (.int .i64 x.most) (.slice Bu x.us.length du) (.slice Br x.rows.length dr) 25
    rw [hW1]
    simpa [Box2] using g
  have cu' := (equalS_any Au Bu cu du t.us x.us W1 (h.us.thru hw1 h.le) (h'.us.thru hw1 h'.le) (by have := h.ul; unfold maxLen; omega)).mono (R' := fun e w' => e = .returned (.bool (decide (t.us = x.us))) ∧ Below W1.heap.size W1 w') fun e w' hh => by
    obtain ⟨e1, n, rfl⟩ := hh
    exact ⟨e1, (Below.refl _ _).drewN' _⟩
  have crr := fun W (q : Below W1.heap.size W1 W) => equalR_any t.rows x.rows Ar Br cr dr W (h.rows.thru (hw1.trans (q.mono hw1.size)) h.le) (h'.rows.thru (hw1.trans (q.mono hw1.size)) h'.le) (Nat.le_trans h.le (hw1.trans (q.mono hw1.size)).size) (Nat.le_trans h'.le (hw1.trans (q.mono hw1.size)).size) hrl (fun r hr => by have := (h.wf r hr).len; omega)
  obtain ⟨U, hU⟩ : ∃ U, decide (t.us = x.us) = U := ⟨_, rfl⟩
  obtain ⟨V, hV⟩ : ∃ V, sameRs t.rows x.rows = V := ⟨_, rfl⟩
  obtain ⟨m, hm⟩ : ∃ m, t.us.length = m := ⟨_, rfl⟩
  obtain ⟨m2, hm2⟩ : ∃ m, x.us.length = m := ⟨_, rfl⟩
  obtain ⟨n, hn⟩ : ∃ m, t.rows.length = m := ⟨_, rfl⟩
  obtain ⟨n2, hn2⟩ : ∃ m, x.rows.length = m := ⟨_, rfl⟩
  unfold sameT
  rw [hU, hV]
  unfold Box2 at hW1
  rw [hU] at cu'
  simp only [hV] at crr
  simp only [hm, hm2, hn, hn2] at cu' crr k0 k1 hW1 ⊢
  have HB := Lib.hid hw1
  have HK0 := Lib.hid k0
  have HK1 := Lib.hid k1
  have CRR := Lib.hid crr
  have FA := k0 W1 (Below.refl _ _)
  have FB := k1 W1 (Below.refl _ _)
  obtain ⟨f0, f1, f2, f3, _⟩ := FA
  obtain ⟨g0, g1, g2, g3, _⟩ := FB
  have HW1 := Lib.hid hW1
  clear h h' hrl hw1 hz1 k0 k1 crr hU hV hm hm2 hn hn2 hW1
  have hb0 : (t.name.toList == x.name.toList) = decide (t.name = x.name) := ba_beq ..
  obtain ⟨D, hD⟩ : ∃ D, decide (t.name = x.name) = D := ⟨_, rfl⟩
  rw [hD] at hb0 ⊢
  obtain ⟨M, hM⟩ : ∃ M, decide (t.most = x.most) = M := ⟨_, rfl⟩
  have hb1 : (t.most == x.most) = M := by rw [← hM, Bool.eq_iff_iff, beq_iff_eq, decide_eq_true_iff]
  rw [hM]
  clear hD hM
  cases D with
  | false =>
    simp only [Bool.false_and]
    go_enter Tryz.func19, Tryz.ntmps19
    go_wp2
    rw [← HW1.out]
    go_ret
    exact ⟨rfl, HB.out⟩
  | true =>
    cases M with
    | false =>
      simp only [Bool.true_and, Bool.false_and]
      go_enter Tryz.func19, Tryz.ntmps19
      go_wp2
      rw [← HW1.out]
      go_ret
      exact ⟨rfl, HB.out⟩
    | true =>
      simp only [Bool.true_and]
      cases U with
      | false =>
        simp only [Bool.false_and]
        go_enter Tryz.func19, Tryz.ntmps19
        go_wp2_with fail
        rw [← HW1.out]
        refine cu'.mono ?_
        rintro e w1 ⟨rfl, hb1⟩
        go_wp2
        go_ret
        exact ⟨rfl, HB.out.trans (hb1.mono HB.out.size)⟩
      | true =>
        simp only [Bool.true_and]
        go_enter Tryz.func19, Tryz.ntmps19
        go_wp2_with fail
        rw [← HW1.out]
        refine cu'.mono ?_
        rintro e w1 ⟨rfl, q1⟩
        clear f0 f1 f2 f3 g0 g1 g2 g3
        obtain ⟨f0, f1, f2, f3, _⟩ := HK0.out w1 q1
        obtain ⟨g0, g1, g2, g3, _⟩ := HK1.out w1 q1
        have cc := CRR.out w1 q1
        go_wp2_with fail
        refine cc.mono ?_
        rintro e w2 ⟨rfl, q2⟩
        go_wp2
        go_ret
        exact ⟨rfl, HB.out.trans ((q1.trans (q2.mono q1.size)).mono HB.out.size)⟩
end
end Go.Proofs.YtcgioepbooafcaaGreatDoor
