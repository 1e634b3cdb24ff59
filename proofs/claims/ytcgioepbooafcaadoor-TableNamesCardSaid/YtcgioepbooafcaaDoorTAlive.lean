/- alive: it answers true. Conditions: Go's two tables of utf8. -/
import Derived.Test.YtcgioepbooafcaaDoorMSmall
namespace Go.Proofs.YtcgioepbooafcaaDoor
open Go.RowKit
theorem TwinPost.recIn {base : Nat} {r : RecC} {w : World} {A : Option Addr} {c : Nat} (h : w.ownsRow base 60 5 (.slice A r.data.length c) r.data.length (cv r.data)) : RecIn w w.heap.size r.data A c := by
  obtain ⟨A', c', e, h1, h2⟩ := own_slice h
  simp only [Value.slice.injEq] at e
  obtain ⟨rfl, _, rfl⟩ := e
  exact ⟨rd_ofK2 h, h1, h2⟩
theorem rB_W : RecW (rB 2) := recW_small (by kernel_rfl)
theorem rC_W : RecW (rC 3) := recW_small (by kernel_rfl)
theorem at_world {P : World → Prop} {B : Nat} {wb : World} (W : World) (h : Below B wb W) (k : ∀ W, Below B wb W → P W) : P W := k W h
theorem four_new {w w' : World} {v0 v1 v2 v3 : Value} {T : TypeId} (q : Below (w.alloc (.cells #[v0, v1, v2, v3] T)).heap.size (w.alloc (.cells #[v0, v1, v2, v3] T)) w') : Four w' w.heap.size v0 v1 v2 v3 := (Four.new w v0 v1 v2 v3 T).below q (by simp)
theorem four_newD {w w' : World} {v0 v1 v2 v3 : Value} {T : TypeId} (q : Below (w.alloc (.cells #[v0, v1, v2, v3] T)).drew.heap.size (w.alloc (.cells #[v0, v1, v2, v3] T)).drew w') : Four w' w.heap.size v0 v1 v2 v3 := by
  have f := Four.new w v0 v1 v2 v3 T
  exact Four.below (W := (w.alloc (.cells #[v0, v1, v2, v3] T)).drew) ⟨f.c0, f.c1, f.c2, f.c3, f.f⟩ q (show w.heap.size < (w.alloc (.cells #[v0, v1, v2, v3] T)).heap.size by simp)
def ZeroPost (E : Int) (w : World) (e : Ending) (w' : World) : Prop := ∃ Au cu Ar cr, e = .returned (.tuple #[.agg #[.string ⟨#[]⟩, .int .i64 0, .slice Au 0 cu, .slice Ar 0 cr], .int .i64 E]) ∧ Below w.heap.size w w'
theorem ResPost.zero {E : Int} {w : World} {e : Ending} {w' : World} (h : ResPost zeroT E w e w') : ZeroPost E w e w' := by
  obtain ⟨Au, cu, Ar, cr, e1, _, b⟩ := h
  exact ⟨Au, cu, Ar, cr, e1, b⟩
def TwoPost (w : World) (e : Ending) (w' : World) : Prop := ∃ Au cu g cr, e = .returned (.tuple #[.agg #[.string ⟨#[84]⟩, .int .i64 2, .slice Au 1 cu, .slice (some ⟨g, 0, none⟩) 2 cr], .int .i64 0]) ∧ NewTab w' w.heap.size twoT Au cu g cr ∧ Below w.heap.size w w'
theorem ResPost.two {w : World} {e : Ending} {w' : World} (h : ResPost twoT 0 w e w') : TwoPost w e w' := by
  obtain ⟨Au, cu, Ar, cr, e1, f, b⟩ := h
  rcases f with ⟨f, _⟩ | ⟨g, rfl, f⟩
  · cases f
  · exact ⟨Au, cu, g, cr, e1, f, b⟩
set_option maxRecDepth 100000 in
set_option maxHeartbeats 16000000 in
theorem alive_any (w : World) (hT : Tabs w) : Calls Tryd.prog 7 #[] w fun e w' => e = .returned (.bool true) ∧ Below w.heap.size w w' := by
  have c1 := small_any w hT
  have c2 := fun W (q : Below w.heap.size w W) => record_any ⟨#[98]⟩ 2 (by omega) (by omega) (by decide) W (hT.below q)
  have c3 := fun (W : World) (Au : Option Addr) (cu g : Nat) (A : Option Addr) (c : Nat) (w1 : World) (q : Below w.heap.size w W) (q1 : Below w1.heap.size w1 W) (n1 : NewTab w1 w.heap.size smallT Au cu g 1) (o : W.ownsRow w1.heap.size 60 5 (.slice A (rB 2).data.length c) (rB 2).data.length (cv (rB 2).data)) =>
    put_t smallT (rB 2) Au cu (some ⟨g, 0, none⟩) 1 A c W ((n1.below q1 (Nat.le_refl _)).tabIn (hT.below q) small_W) small_W (TwinPost.recIn o) (Nat.le_refl _) rB_W
  rw [put_b2] at c3
  have c3' := fun W Au cu g A c w1 q q1 n1 o => (c3 W Au cu g A c w1 q q1 n1 o).mono (fun e w' h => ResPost.two h)
  change ∀ (W : World) (Au : Option Addr) (cu g : Nat) (A : Option Addr) (c : Nat) (w1 : World), _ → _ → _ → _ → Calls Tryd.prog 10 #[.agg #[.string ⟨#[84]⟩, .int .i64 2, .slice Au 1 cu, .slice (some ⟨g, 0, none⟩) 1 1], .agg #[.string ⟨#[98]⟩, .slice A (rB 2).data.length c]] W _ at c3'
  unfold TwinT at c1
  unfold TwinPost at c2
  unfold TwoPost at c3'
  change Calls _ _ _ _ fun e w' => ∃ Au cu g, e = .returned (.agg #[.string ⟨#[84]⟩, .int .i64 2, .slice Au 1 cu, .slice (some ⟨g, 0, none⟩) 1 1]) ∧ NewTab w' w.heap.size smallT Au cu g 1 ∧ _ at c1
  change ∀ W : World, _ → Calls _ _ _ _ fun e w' => ∃ A c, e = .returned (.agg #[.string ⟨#[98]⟩, .slice A (rB 2).data.length c]) ∧ w'.ownsRow W.heap.size 60 5 (.slice A (rB 2).data.length c) (rB 2).data.length (cv (rB 2).data) ∧ _ at c2
  obtain ⟨D, hD⟩ : ∃ D, (rB 2).data = D := ⟨_, rfl⟩
  simp only [hD] at c2 c3'
  have C2 := Lib.hid c2
  have C3 := Lib.hid c3'
  have HT := Lib.hid hT
  have HD := Lib.hid hD
  clear c2 c3 c3' hT hD
  go_enter Tryd.func7, Tryd.ntmps7
  go_wp2_with fail
  refine c1.mono ?_
  rintro e w1 ⟨Au1, cu1, g1, rfl, n1, hb1⟩
  clear c1
  have c2 := C2.out w1 hb1
  go_wp2_with fail
  refine c2.mono ?_
  rintro e w2 ⟨A2, k2, rfl, o2, hb2⟩
  clear c2
  have d2 := hb1.trans (hb2.mono hb1.size)
  have c3 := C3.out w2 Au1 cu1 g1 A2 k2 w1 d2 hb2 n1 o2
  clear n1 o2
  go_wp2_with fail
  refine c3.mono ?_
  rintro e w3 ⟨Au, cu, g, cr, rfl, n3, hb3⟩
  clear c3
  have d3 := d2.trans (hb3.mono d2.size)
  have N3 := Lib.hid n3
  clear n3
  go_wp2
  -- CUT
  obtain ⟨wb, hwb⟩ : ∃ wb, wb = w3.alloc (.cells #[.string ⟨#[84]⟩, .int .i64 2, .slice Au 1 cu, .slice (some ⟨g, 0, none⟩) 2 cr] 25) := ⟨_, rfl⟩
  rw [← hwb]
  have qb : Below w3.heap.size w3 wb := by rw [hwb]; exact (Below.refl _ _).alloc (Nat.le_refl _) _
  have db : Below w.heap.size w wb := d3.trans (qb.mono d3.size)
  have kF : ∀ W, Below wb.heap.size wb W → W.cell? ⟨w3.heap.size, 0, none⟩ = some (.string ⟨#[84]⟩) ∧ W.cell? ⟨w3.heap.size, 1, none⟩ = some (.int .i64 2) ∧ W.cell? ⟨w3.heap.size, 2, none⟩ = some (.slice Au 1 cu) ∧ W.cell? ⟨w3.heap.size, 3, none⟩ = some (.slice (some ⟨g, 0, none⟩) 2 cr) := fun W q => by
    rw [hwb] at q
    have f := (Four.new w3 _ _ _ _ _).below q (by simp)
    exact ⟨f.c0, f.c1, f.c2, f.c3⟩
  have kN : ∀ W, Below wb.heap.size wb W → NewTab W w2.heap.size twoT Au cu g cr := fun W q => N3.out.below (qb.trans (q.mono qb.size)) (Nat.le_refl _)
  have kT : ∀ W, Below wb.heap.size wb W → TabIn W W.heap.size twoT Au (some ⟨g, 0, none⟩) := fun W q => (kN W q).tabIn (HT.out.below (db.trans (q.mono db.size))) two_W
  have k1 := fun W (q : Below wb.heap.size wb W) => (record_any ⟨#[99]⟩ 3 (by omega) (by omega) (by decide) W (HT.out.below (db.trans (q.mono db.size)))).mono (R' := fun e w' => ∃ A c, e = .returned (.agg #[.string ⟨#[99]⟩, .slice A (rC 3).data.length c]) ∧ w'.ownsRow wb.heap.size 60 5 (.slice A (rC 3).data.length c) (rC 3).data.length (cv (rC 3).data) ∧ Below W.heap.size W w') fun e w' h => by
    obtain ⟨A, c, e1, o, b⟩ := h
    exact ⟨A, c, e1, own_base o q.size, b⟩
  have k4 := fun W (q : Below wb.heap.size wb W) => (record_any ⟨#[98]⟩ 2 (by omega) (by omega) (by decide) W (HT.out.below (db.trans (q.mono db.size)))).mono (R' := fun e w' => ∃ A c, e = .returned (.agg #[.string ⟨#[98]⟩, .slice A (rB 2).data.length c]) ∧ w'.ownsRow wb.heap.size 60 5 (.slice A (rB 2).data.length c) (rB 2).data.length (cv (rB 2).data) ∧ Below W.heap.size W w') fun e w' h => by
    obtain ⟨A, c, e1, o, b⟩ := h
    exact ⟨A, c, e1, own_base o q.size, b⟩
  have k2 : ∀ (W W5 : World) (A : Option Addr) (c : Nat), Below wb.heap.size wb W → Below W5.heap.size W5 W → W5.ownsRow wb.heap.size 60 5 (.slice A (rC 3).data.length c) (rC 3).data.length (cv (rC 3).data) → Calls Tryd.prog 10 #[.agg #[.string ⟨#[84]⟩, .int .i64 2, .slice Au 1 cu, .slice (some ⟨g, 0, none⟩) 2 cr], .agg #[.string ⟨#[99]⟩, .slice A (rC 3).data.length c]] W fun e w' => ∃ Au' cu' Ar' cr', e = .returned (.tuple #[.agg #[.string ⟨#[]⟩, .int .i64 0, .slice Au' 0 cu', .slice Ar' 0 cr'], .int .i64 272]) ∧ Below W.heap.size W w' := fun W W5 A c q q5 o => by
    have h := put_t twoT (rC 3) Au cu (some ⟨g, 0, none⟩) cr A c W (kT W q) two_W ((TwinPost.recIn o).thru q5 (Nat.le_refl _)) q5.size rC_W
    rw [put_c3] at h
    refine h.mono fun e w' hh => ?_
    obtain ⟨a1, a2, a3, a4, e1, b⟩ := ResPost.zero hh
    exact ⟨a1, a2, a3, a4, e1, b⟩
  have k3 : ∀ (W : World), Below wb.heap.size wb W → Calls Tryd.prog 13 #[.agg #[.string ⟨#[84]⟩, .int .i64 2, .slice Au 1 cu, .slice (some ⟨g, 0, none⟩) 2 cr], .string ⟨#[98]⟩] W fun e w' => ∃ A c, e = .returned (.tuple #[.agg #[.string ⟨#[98]⟩, .slice A (rB 2).data.length c], .bool true]) ∧ w'.ownsRow wb.heap.size 60 5 (.slice A (rB 2).data.length c) (rB 2).data.length (cv (rB 2).data) ∧ Below wb.heap.size wb w' := fun W q => by
    have h := get_t twoT ⟨#[98]⟩ Au cu (some ⟨g, 0, none⟩) cr W (kT W q) two_W
    rw [get_b2] at h
    refine h.mono fun e w' hh => ?_
    obtain ⟨A, c, e1, o, b⟩ := hh
    exact ⟨A, c, e1, own_base o q.size, q.trans (b.mono q.size)⟩
  have k5 : ∀ (W W9 W11 : World) (A A' : Option Addr) (c c' : Nat), Below wb.heap.size wb W → W9.ownsRow wb.heap.size 60 5 (.slice A (rB 2).data.length c) (rB 2).data.length (cv (rB 2).data) → Below W9.heap.size W9 W → W11.ownsRow wb.heap.size 60 5 (.slice A' (rB 2).data.length c') (rB 2).data.length (cv (rB 2).data) → Below W11.heap.size W11 W → Calls Tryd.prog 15 #[.agg #[.string ⟨#[98]⟩, .slice A (rB 2).data.length c], .agg #[.string ⟨#[98]⟩, .slice A' (rB 2).data.length c']] W fun e w' => e = .returned (.bool true) ∧ Below W.heap.size W w' := fun W W9 W11 A A' c c' q o9 q9 o11 q11 => by
    have h := same_rec (rB 2) (rB 2) A A' c c' W ((rd_ofK2 o9).thru q9 (Nat.le_refl _)) ((rd_ofK2 o11).thru q11 (Nat.le_refl _)) q9.size q11.size (by have := rB_W.len; omega)
    rw [(sameR_iff _ _).2 rfl] at h
    exact h.mono fun e w' hh => ⟨hh.1, hh.2⟩
  have kG : ∀ W, Below wb.heap.size wb W → W.cell? ⟨g, 0, none⟩ = some (.string ⟨#[97]⟩) := fun W q => by
    obtain ⟨_, ⟨vs, hg, hl, hk⟩, _, hc⟩ := kN W q
    obtain ⟨h0, _⟩ := hk 0 (by decide) (by decide)
    obtain ⟨l0, e0⟩ := List.getElem?_eq_some_iff.1 h0
    rw [cells_read hg _ l0, e0]
    rfl
  obtain ⟨E, hE⟩ : ∃ E, (rC 3).data = E := ⟨_, rfl⟩
  simp only [hE] at k1 k2
  simp only [HD.out] at k3 k4 k5
  have K1 := Lib.hid k1
  have K2 := Lib.hid k2
  have K3 := Lib.hid k3
  have K4 := Lib.hid k4
  have K5 := Lib.hid k5
  have KF := Lib.hid kF
  have KG := Lib.hid kG
  have HDB := Lib.hid db
  obtain ⟨x0, x1, x2, x3⟩ := kF wb (Below.refl _ _)
  clear k1 k2 k3 k4 k5 kF kG kN kT hE hwb qb db
  go_region_held3 (fun W => W.cell? ⟨w3.heap.size, 0, none⟩ = some (.string ⟨#[84]⟩) ∧ W.cell? ⟨w3.heap.size, 1, none⟩ = some (.int .i64 2) ∧ W.cell? ⟨w3.heap.size, 2, none⟩ = some (.slice Au 1 cu) ∧ W.cell? ⟨w3.heap.size, 3, none⟩ = some (.slice (some ⟨g, 0, none⟩) 2 cr))
    (exact KF.out _ (by repeat (first | assumption | exact Below.refl _ _ | refine Below.drew ?_ | refine Below.alloc ?_ (by first | assumption | exact Nat.le_refl _ | omega | (simp; done) | (simp; omega)) _ | refine Below.setCell ?_ (by first | assumption | exact Nat.le_refl _ | omega | (simp; done) | (simp; omega)) _)))
    (first
      | (go_at_call 18; (with_reducible refine (K1.out _ ?_).mono ?_); exact (by repeat (first | assumption | exact Below.refl _ _ | refine Below.drew ?_ | refine Below.alloc ?_ (by first | assumption | exact Nat.le_refl _ | omega | (simp; done) | (simp; omega)) _ | refine Below.setCell ?_ (by first | assumption | exact Nat.le_refl _ | omega | (simp; done) | (simp; omega)) _)); rintro e w5 ⟨A5, c5, rfl, ho5, hq5⟩; have hb5 : Below wb.heap.size wb w5 := Below.trans (by repeat (first | assumption | exact Below.refl _ _ | refine Below.drew ?_ | refine Below.alloc ?_ (by first | assumption | exact Nat.le_refl _ | omega | (simp; done) | (simp; omega)) _ | refine Below.setCell ?_ (by first | assumption | exact Nat.le_refl _ | omega | (simp; done) | (simp; omega)) _)) (hq5.mono (by first | assumption | exact Nat.le_refl _ | omega | (simp; done) | (simp; omega))); have hs5 := hb5.size; (try have bx := four_newD hq5); (try (obtain ⟨y0, y1, y2, y3, yf⟩ := id bx; have yf0 := yf 0; have yf1 := yf 1; have yf2 := yf 2; have yf3 := yf 3)))
      | (go_at_call 10; (with_reducible refine (K2.out _ w5 A5 c5 ?_ ?_ ho5).mono ?_); exact (by repeat (first | assumption | exact Below.refl _ _ | refine Below.drew ?_ | refine Below.alloc ?_ (by first | assumption | exact Nat.le_refl _ | omega | (simp; done) | (simp; omega)) _ | refine Below.setCell ?_ (by first | assumption | exact Nat.le_refl _ | omega | (simp; done) | (simp; omega)) _)); exact (by repeat (first | assumption | exact Below.refl _ _ | refine Below.drew ?_ | refine Below.alloc ?_ (by first | assumption | exact Nat.le_refl _ | omega | (simp; done) | (simp; omega)) _ | refine Below.setCell ?_ (by first | assumption | exact Nat.le_refl _ | omega | (simp; done) | (simp; omega)) _)); rintro e w7 ⟨Au7, cu7, Ar7, cr7, rfl, hq7⟩; have hb7 : Below wb.heap.size wb w7 := Below.trans (by repeat (first | assumption | exact Below.refl _ _ | refine Below.drew ?_ | refine Below.alloc ?_ (by first | assumption | exact Nat.le_refl _ | omega | (simp; done) | (simp; omega)) _ | refine Below.setCell ?_ (by first | assumption | exact Nat.le_refl _ | omega | (simp; done) | (simp; omega)) _)) (hq7.mono (by first | assumption | exact Nat.le_refl _ | omega | (simp; done) | (simp; omega))); have hs7 := hb7.size; (first | have by7 := four_new hq7 | have by7 := bx.below hq7 (World.block_lt_of_cell? _ _ bx.c0) | skip); (try (obtain ⟨z0, z1, z2, z3, zf⟩ := id by7; have zf0 := zf 0; have zf1 := zf 1; have zf2 := zf 2; have zf3 := zf 3)); have u0 := fun v0 v1 v2 v3 T => (Four.new w7 v0 v1 v2 v3 T).c0; have u1 := fun v0 v1 v2 v3 T => (Four.new w7 v0 v1 v2 v3 T).c1; have u2 := fun v0 v1 v2 v3 T => (Four.new w7 v0 v1 v2 v3 T).c2; have u3 := fun v0 v1 v2 v3 T => (Four.new w7 v0 v1 v2 v3 T).c3; have u4 := fun v0 v1 v2 v3 T => (Four.new w7 v0 v1 v2 v3 T).f 0; have u5 := fun v0 v1 v2 v3 T => (Four.new w7 v0 v1 v2 v3 T).f 1; have u6 := fun v0 v1 v2 v3 T => (Four.new w7 v0 v1 v2 v3 T).f 2; have u7 := fun v0 v1 v2 v3 T => (Four.new w7 v0 v1 v2 v3 T).f 3))
  all_goals refine at_world (P := Exit.then _ _ _ _) (B := wb.heap.size) (wb := wb) _ (by repeat (first | assumption | exact Below.refl _ _ | refine Below.drew ?_ | refine Below.alloc ?_ (by first | assumption | exact Nat.le_refl _ | omega | (simp; done) | (simp; omega)) _ | refine Below.setCell ?_ (by first | assumption | exact Nat.le_refl _ | omega | (simp; done) | (simp; omega)) _)) (fun w8 q8 => ?_)
  all_goals
    obtain ⟨p0, p1, p2, p3⟩ := KF.out w8 q8
    have c3 := K3.out w8 q8
    go_wp2_with fail
    refine c3.mono ?_
    rintro e w9 ⟨A9, c9, rfl, o9, q9⟩
    clear p0 p1 p2 p3 c3
    go_wp2
    obtain ⟨w10, hw10⟩ : ∃ w10, w10 = w9.alloc (.cells #[.string ⟨#[98]⟩, .slice A9 D.length c9] 28) := ⟨_, rfl⟩
    rw [← hw10]
    have b10 : Below w9.heap.size w9 w10 := by rw [hw10]; exact (Below.refl _ _).alloc (Nat.le_refl _) _
    have kb9 : ∀ W, Below w10.heap.size w10 W → Below w9.heap.size w9 W := fun W q => b10.trans (q.mono b10.size)
    have kbb : ∀ W, Below w10.heap.size w10 W → Below wb.heap.size wb W := fun W q => q9.trans ((kb9 W q).mono q9.size)
    have kS : ∀ W, Below w10.heap.size w10 W → W.cell? ⟨w3.heap.size, 3, none⟩ = some (.slice (some ⟨g, 0, none⟩) 2 cr) ∧ W.cell? ⟨w9.heap.size, 0, none⟩ = some (.string ⟨#[98]⟩) ∧ W.cell? ⟨w9.heap.size, 1, none⟩ = some (.slice A9 D.length c9) ∧ W.cell? ⟨g, 0, none⟩ = some (.string ⟨#[97]⟩) := fun W q => by
      refine ⟨(KF.out W (kbb W q)).2.2.2, ?_, ?_, KG.out W (kbb W q)⟩
      · rw [hw10] at q
        exact box_keep q 0 (by simp)
      · rw [hw10] at q
        exact box_keep q 1 (by simp)
    have KB9 := Lib.hid kb9
    have KBB := Lib.hid kbb
    have KS := Lib.hid kS
    obtain ⟨s0, s1, s2, s3⟩ := kS w10 (Below.refl _ _)
    clear kb9 kbb kS hw10 b10
    go_region_held3 (fun W => W.cell? ⟨w3.heap.size, 3, none⟩ = some (.slice (some ⟨g, 0, none⟩) 2 cr) ∧ W.cell? ⟨w9.heap.size, 0, none⟩ = some (.string ⟨#[98]⟩) ∧ W.cell? ⟨w9.heap.size, 1, none⟩ = some (.slice A9 D.length c9) ∧ W.cell? ⟨g, 0, none⟩ = some (.string ⟨#[97]⟩))
      (exact KS.out _ (by repeat (first | assumption | exact Below.refl _ _ | refine Below.drew ?_ | refine Below.alloc ?_ (by first | assumption | exact Nat.le_refl _ | omega | (simp; done) | (simp; omega)) _ | refine Below.setCell ?_ (by first | assumption | exact Nat.le_refl _ | omega | (simp; done) | (simp; omega)) _)))
      (first
        | (go_at_call 18; (with_reducible refine (K4.out _ (KBB.out _ ?_)).mono ?_); exact (by repeat (first | assumption | exact Below.refl _ _ | refine Below.drew ?_ | refine Below.alloc ?_ (by first | assumption | exact Nat.le_refl _ | omega | (simp; done) | (simp; omega)) _ | refine Below.setCell ?_ (by first | assumption | exact Nat.le_refl _ | omega | (simp; done) | (simp; omega)) _)); rintro e w11 ⟨A11, c11, rfl, o11, hq11⟩; have hb11 : Below w10.heap.size w10 w11 := Below.trans (by repeat (first | assumption | exact Below.refl _ _ | refine Below.drew ?_ | refine Below.alloc ?_ (by first | assumption | exact Nat.le_refl _ | omega | (simp; done) | (simp; omega)) _ | refine Below.setCell ?_ (by first | assumption | exact Nat.le_refl _ | omega | (simp; done) | (simp; omega)) _)) (hq11.mono (by first | assumption | exact Nat.le_refl _ | omega | (simp; done) | (simp; omega))); have hs11 := hb11.size)
        | (go_at_call 15; (with_reducible refine (K5.out _ w9 w11 A9 A11 c9 c11 (KBB.out _ ?_) o9 (KB9.out _ ?_) o11 ?_).mono ?_); exact (by repeat (first | assumption | exact Below.refl _ _ | refine Below.drew ?_ | refine Below.alloc ?_ (by first | assumption | exact Nat.le_refl _ | omega | (simp; done) | (simp; omega)) _ | refine Below.setCell ?_ (by first | assumption | exact Nat.le_refl _ | omega | (simp; done) | (simp; omega)) _)); exact (by repeat (first | assumption | exact Below.refl _ _ | refine Below.drew ?_ | refine Below.alloc ?_ (by first | assumption | exact Nat.le_refl _ | omega | (simp; done) | (simp; omega)) _ | refine Below.setCell ?_ (by first | assumption | exact Nat.le_refl _ | omega | (simp; done) | (simp; omega)) _)); exact (by repeat (first | assumption | exact Below.refl _ _ | refine Below.drew ?_ | refine Below.alloc ?_ (by first | assumption | exact Nat.le_refl _ | omega | (simp; done) | (simp; omega)) _ | refine Below.setCell ?_ (by first | assumption | exact Nat.le_refl _ | omega | (simp; done) | (simp; omega)) _)); rintro e w12 ⟨rfl, hq12⟩; have hb12 : Below w10.heap.size w10 w12 := Below.trans (by repeat (first | assumption | exact Below.refl _ _ | refine Below.drew ?_ | refine Below.alloc ?_ (by first | assumption | exact Nat.le_refl _ | omega | (simp; done) | (simp; omega)) _ | refine Below.setCell ?_ (by first | assumption | exact Nat.le_refl _ | omega | (simp; done) | (simp; omega)) _)) (hq12.mono (by first | assumption | exact Nat.le_refl _ | omega | (simp; done) | (simp; omega))); have hs12 := hb12.size))
    go_wp2
    go_ret
    exact ⟨rfl, HDB.out.trans ((KBB.out _ (by repeat (first | assumption | exact Below.refl _ _ | refine Below.drew ?_ | refine Below.alloc ?_ (by first | assumption | exact Nat.le_refl _ | omega | (simp; done) | (simp; omega)) _ | refine Below.setCell ?_ (by first | assumption | exact Nat.le_refl _ | omega | (simp; done) | (simp; omega)) _))).mono HDB.out.size)⟩
end Go.Proofs.YtcgioepbooafcaaDoor
