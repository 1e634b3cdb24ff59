/- The law TableNames: it answers true. Conditions: Go's two tables of utf8. -/
import Derived.Test.YtcgioepbooafcaaDoorTNames0
import Derived.Deep.DeepCutAuto
namespace Go.Proofs.YtcgioepbooafcaaDoor
open Go.RowKit
def SmallRes (w : World) (e : Ending) (w' : World) : Prop := ∃ Au cu g, e = .returned (.agg #[.string ⟨#[84]⟩, .int .i64 2, .slice Au 1 cu, .slice (some ⟨g, 0, none⟩) 1 1]) ∧ NewTab w' w.heap.size smallT Au cu g 1 ∧ Below w.heap.size w w'
/-- a box with a table in new memory behind it -/
def BoxTab (w : World) (b : Nat) (X : TabC) (nm : ByteArray) (mo : Int) (nu nr : Nat) (W : World) : Prop := ∃ Au cu g cr, Below w.heap.size w W ∧ w.heap.size ≤ b ∧ b < W.heap.size ∧ Four W b (.string nm) (.int .i64 mo) (.slice Au nu cu) (.slice (some ⟨g, 0, none⟩) nr cr) ∧ NewTab W (b + 1) X Au cu g cr
def CutBox (w : World) (b : Nat) (X : TabC) (nm : ByteArray) (mo : Int) (nu nr : Nat) (v : Value) (W : World) : Prop := v = .int .i64 0 ∧ BoxTab w b X nm mo nu nr W
theorem box_put {w W w7 : World} {b nu nr' : Nat} {Y : TabC} {nm : ByteArray} {mo : Int} {v0 v1 v2 v3 : Value} {Au : Option Addr} {cu g cr : Nat} (h0 : Below w.heap.size w W) (hb : w.heap.size ≤ b) (hl : b < W.heap.size) (f : Four W b v0 v1 v2 v3) (q : Below W.heap.size W w7) (n : NewTab w7 W.heap.size Y Au cu g cr) :
    BoxTab w b Y nm mo nu nr' ((((w7.setCell ⟨b, 0, none⟩ (.string nm)).setCell ⟨b, 1, none⟩ (.int .i64 mo)).setCell ⟨b, 2, none⟩ (.slice Au nu cu)).setCell ⟨b, 3, none⟩ (.slice (some ⟨g, 0, none⟩) nr' cr)) := by
  have f7 := f.below q hl
  refine ⟨Au, cu, g, cr, below_four (h0.trans (q.mono h0.size)) hb _ _ _ _, hb, ?_, ((((f7.set0 _).set1 _).set2 _).set3 _), (n.grown (grown_four _ _ _ _ _ _) hl).base (by omega)⟩
  exact World.block_lt_of_cell? _ _ ((((f7.set0 _).set1 _).set2 _).set3 _).c0
theorem four_lt {W : World} {b : Nat} {v0 v1 v2 v3 : Value} (h : Four W b v0 v1 v2 v3) : b < W.heap.size := World.block_lt_of_cell? _ _ h.c0
theorem field_data (s : ByteArray) (A : Option Addr) (n c : Nat) (w : World) : (Instr.field 28 (.agg #[.string s, .slice A n c]) 1).run Tryd.prog w = .ok (.slice A n c) w := by kernel_rfl
set_option maxRecDepth 100000 in
set_option maxHeartbeats 16000000 in
theorem names_any (w : World) (hT : Tabs w) : Calls Tryd.prog 6 #[] w fun e w' => e = .returned (.bool true) ∧ Below w.heap.size w w' := by
  obtain ⟨DA5, hDA5⟩ : ∃ D, (lawR ⟨#[97]⟩ 5).data = D := ⟨_, rfl⟩
  have HDA5 := Lib.hid hDA5
  clear hDA5
  obtain ⟨DB1, hDB1⟩ : ∃ D, (lawR ⟨#[98]⟩ 1).data = D := ⟨_, rfl⟩
  have HDB1 := Lib.hid hDB1
  clear hDB1
  obtain ⟨DB0, hDB0⟩ : ∃ D, (lawR ⟨#[98]⟩ (-1)).data = D := ⟨_, rfl⟩
  have HDB0 := Lib.hid hDB0
  clear hDB0
  obtain ⟨DC0, hDC0⟩ : ∃ D, (lawR ⟨#[99]⟩ (-1)).data = D := ⟨_, rfl⟩
  have HDC0 := Lib.hid hDC0
  clear hDC0
  obtain ⟨DA3, hDA3⟩ : ∃ D, (lawR ⟨#[97]⟩ 3).data = D := ⟨_, rfl⟩
  have HDA3 := Lib.hid hDA3
  clear hDA3
  obtain ⟨DB3, hDB3⟩ : ∃ D, (lawR ⟨#[98]⟩ 3).data = D := ⟨_, rfl⟩
  have HDB3 := Lib.hid hDB3
  clear hDB3
  obtain ⟨DY1, hDY1⟩ : ∃ D, (lawR ⟨#[121]⟩ 1).data = D := ⟨_, rfl⟩
  have HDY1 := Lib.hid hDY1
  clear hDY1
  have HT := Lib.hid hT
  clear hT
  have d0 := Below.refl w.heap.size w
  go_enter Tryd.func6, Tryd.ntmps6
  have c := small_lit w (HT.out.below d0)
  go_wp2_with fail
  refine c.mono ?_
  rintro e w1 ⟨Au1, cu1, g1, rfl, n1, hb1⟩
  clear c
  have u1 : Below w.heap.size w w1 := hb1
  have d1 := d0.trans (u1.mono d0.size)
  have c := rec_lit ⟨#[97]⟩ 5 (by omega) (by omega) (by decide) HDA5.out w1 (HT.out.below d1)
  go_wp2_with fail
  refine c.mono ?_
  rintro e w2 ⟨A2, c2, rfl, o2, hb2⟩
  clear c
  have u2 : Below w1.heap.size w1 w2 := hb2
  have d2 := d1.trans (u2.mono d1.size)
  have c := put_zero smallT (rA 5) small_W rA5_W (nm := ⟨#[84]⟩) (mo := 2) (nu := 1) (nr := 1) (id := ⟨#[97]⟩) rfl rfl rfl rfl rfl HDA5.out w1 w2 w2 _ _ _ _ _ _ n1 (hb2) _ _ o2 (Below.refl _ _) (HT.out.below d2) put_a5
  unfold ZeroRes at c
  go_wp2_with fail
  refine c.mono ?_
  rintro e w3 ⟨Au3, cu3, Ar3, cr3, rfl, hb3⟩
  clear c
  have u3 : Below w2.heap.size w2 w3 := hb3
  have d3 := d2.trans (u3.mono d2.size)
  clear n1 o2
  have c := fun (o : Obj) => small_lit (w3.alloc o) (HT.out.below (d3.alloc d3.size o))
  go_wp2_with fail
  refine (c _).mono ?_
  rintro e w4 ⟨Au4, cu4, g4, rfl, n4, hb4⟩
  clear c
  have u4 : Below w3.heap.size w3 w4 := ((Below.refl _ _).alloc (Nat.le_refl _) _).trans (hb4.mono (by simp))
  have d4 := d3.trans (u4.mono d3.size)
  have c := rec_lit ⟨#[98]⟩ 1 (by omega) (by omega) (by decide) HDB1.out w4 (HT.out.below d4)
  go_wp2_with fail
  refine c.mono ?_
  rintro e w5 ⟨A5, c5, rfl, o5, hb5⟩
  clear c
  have u5 : Below w4.heap.size w4 w5 := hb5
  have d5 := d4.trans (u5.mono d4.size)
  have c := put_zero smallT (rB 1) small_W rB1_W (nm := ⟨#[84]⟩) (mo := 2) (nu := 1) (nr := 1) (id := ⟨#[98]⟩) rfl rfl rfl rfl rfl HDB1.out w4 w5 w5 _ _ _ _ _ _ n4 (hb5) _ _ o5 (Below.refl _ _) (HT.out.below d5) put_b1
  unfold ZeroRes at c
  go_wp2_with fail
  refine c.mono ?_
  rintro e w6 ⟨Au6, cu6, Ar6, cr6, rfl, hb6⟩
  clear c
  have u6 : Below w5.heap.size w5 w6 := hb6
  have d6 := d5.trans (u6.mono d5.size)
  clear n4 o5
  have c := fun (o : Obj) => small_lit (w6.alloc o) (HT.out.below (d6.alloc d6.size o))
  go_wp2_with fail
  refine (c _).mono ?_
  rintro e w7 ⟨Au7, cu7, g7, rfl, n7, hb7⟩
  clear c
  have u7 : Below w6.heap.size w6 w7 := ((Below.refl _ _).alloc (Nat.le_refl _) _).trans (hb7.mono (by simp))
  have d7 := d6.trans (u7.mono d6.size)
  go_upto_region 5 with fail
  obtain ⟨wb, hwb⟩ : ∃ wb, wb = w7.alloc (.cells #[.string ⟨#[84]⟩, .int .i64 3, .slice Au7 1 cu7, .slice (some ⟨g7, 0, none⟩) 1 1] 25) := ⟨_, rfl⟩
  rw [← hwb]
  have ub : Below w7.heap.size w7 wb := by rw [hwb]; exact (Below.refl _ _).alloc (Nat.le_refl _) _
  have zb : wb.heap.size = w7.heap.size + 1 := by rw [hwb]; simp
  have fb : Four wb w7.heap.size (.string ⟨#[84]⟩) (.int .i64 3) (.slice Au7 1 cu7) (.slice (some ⟨g7, 0, none⟩) 1 1) := by rw [hwb]; exact Four.new w7 _ _ _ _ _
  have nb := ((n7.most (t' := small3) rfl rfl).below ub (Nat.le_refl _))
  have db := d7.trans (ub.mono d7.size)
  have ls := d7.size
  obtain ⟨b5, hb5⟩ : ∃ b, b = w7.heap.size := ⟨_, rfl⟩
  rw [← hb5] at fb zb ls ⊢
  have lb : b5 < wb.heap.size := by omega
  clear hwb n7 hb5 zb
  have HN := Lib.hid nb
  have HF := Lib.hid fb
  clear nb
  have kF : ∀ W, Below wb.heap.size wb W → W.cell? ⟨b5, 0, none⟩ = some (.string ⟨#[84]⟩) ∧ W.cell? ⟨b5, 1, none⟩ = some (.int .i64 3) ∧ W.cell? ⟨b5, 2, none⟩ = some (.slice Au7 1 cu7) ∧ W.cell? ⟨b5, 3, none⟩ = some (.slice (some ⟨g7, 0, none⟩) 1 1) := fun W q => by
    have f := HF.out.below q (by omega)
    exact ⟨f.c0, f.c1, f.c2, f.c3⟩
  have k1 := fun W (q : Below wb.heap.size wb W) => (rec_lit ⟨#[98]⟩ (-1) (by omega) (by omega) (by decide) HDB0.out W (HT.out.below (db.trans (q.mono db.size)))).mono (R' := fun e w' => ∃ A c, e = .returned (.agg #[.string ⟨#[98]⟩, .slice A DB0.length c]) ∧ w'.ownsRow wb.heap.size 60 5 (.slice A DB0.length c) DB0.length (cv DB0) ∧ Below W.heap.size W w') fun e w' h => by
    obtain ⟨A, c, e1, o, b⟩ := h
    exact ⟨A, c, e1, own_base o q.size, b⟩
  have k2 := fun (W WX : World) (A : Option Addr) (c : Nat) (q : Below wb.heap.size wb W) (qX : Below WX.heap.size WX W) (o : WX.ownsRow wb.heap.size 60 5 (.slice A DB0.length c) DB0.length (cv DB0)) => put_new small3 (rB (-1)) small3_W rB0_W (nm := ⟨#[84]⟩) (mo := 3) (nu := 1) (nr := 1) (id := ⟨#[98]⟩) rfl rfl rfl rfl rfl HDB0.out wb WX W _ _ _ _ _ _ HN.out q A c o qX (HT.out.below (db.trans (q.mono db.size))) put_b0 (nr' := 2) rfl rfl rfl rfl (by omega)
  unfold NewRes at k2
  have K1 := Lib.hid k1
  have K2 := Lib.hid k2
  have KF := Lib.hid kF
  have DB := Lib.hid db
  obtain ⟨x0, x1, x2, x3⟩ := kF wb (Below.refl _ _)
  clear k1 k2 kF
  go_cut [6] (CutBox w b5 small4 ⟨#[84]⟩ 3 1 2)
  case first =>
    go_region_with (first
      | (go_at_call 18; (with_reducible refine (K1.out _ ?_).mono ?_); exact (by repeat (first | assumption | exact Below.refl _ _ | refine Below.drew ?_ | refine Below.alloc ?_ (by first | assumption | exact Nat.le_refl _ | omega | (simp; done) | (simp; omega)) _ | refine Below.setCell ?_ (by first | assumption | exact Nat.le_refl _ | omega | (simp; done) | (simp; omega)) _)); rintro e wx ⟨Ax, cx, rfl, hox, hqx⟩; have hbx : Below wb.heap.size wb wx := Below.trans (by repeat (first | assumption | exact Below.refl _ _ | refine Below.drew ?_ | refine Below.alloc ?_ (by first | assumption | exact Nat.le_refl _ | omega | (simp; done) | (simp; omega)) _ | refine Below.setCell ?_ (by first | assumption | exact Nat.le_refl _ | omega | (simp; done) | (simp; omega)) _)) (hqx.mono (by first | assumption | exact Nat.le_refl _ | omega | (simp; done) | (simp; omega))); have hsx := hbx.size; have yx := KF.out wx hbx; obtain ⟨y0, y1, y2, y3⟩ := yx)
      | (go_at_call 10; (with_reducible refine (K2.out _ wx Ax cx ?_ ?_ hox).mono ?_); exact (by repeat (first | assumption | exact Below.refl _ _ | refine Below.drew ?_ | refine Below.alloc ?_ (by first | assumption | exact Nat.le_refl _ | omega | (simp; done) | (simp; omega)) _ | refine Below.setCell ?_ (by first | assumption | exact Nat.le_refl _ | omega | (simp; done) | (simp; omega)) _)); exact (by repeat (first | assumption | exact Below.refl _ _ | refine Below.drew ?_ | refine Below.alloc ?_ (by first | assumption | exact Nat.le_refl _ | omega | (simp; done) | (simp; omega)) _ | refine Below.setCell ?_ (by first | assumption | exact Nat.le_refl _ | omega | (simp; done) | (simp; omega)) _)); rintro e wz ⟨Auz, cuz, gz, crz, rfl, nz, hqz⟩; have hbz : Below wb.heap.size wb wz := Below.trans (by repeat (first | assumption | exact Below.refl _ _ | refine Below.drew ?_ | refine Below.alloc ?_ (by first | assumption | exact Nat.le_refl _ | omega | (simp; done) | (simp; omega)) _ | refine Below.setCell ?_ (by first | assumption | exact Nat.le_refl _ | omega | (simp; done) | (simp; omega)) _)) (hqz.mono (by first | assumption | exact Nat.le_refl _ | omega | (simp; done) | (simp; omega))); have fz := HF.out.below hbz (by omega); obtain ⟨z0, z1, z2, z3, zf⟩ := id fz; have zf0 := zf 0; have zf1 := zf 1; have zf2 := zf 2; have zf3 := zf 3; clear zf))
    all_goals go_wp2_with fail
    all_goals go_meet
    all_goals exact ⟨rfl, box_put DB.out ls lb HF.out hbz (nz.base hsx)⟩
  case rest =>
  clear HN HF K1 K2 KF x0 x1 x2 x3
  obtain ⟨rfl, Auc5, cuc5, gc5, crc5, db5, _, lb, fb, nb⟩ := hcut
  obtain ⟨w50, hwb⟩ : ∃ W, W = wc := ⟨_, rfl⟩
  rw [← hwb] at db5 lb fb nb ⊢
  clear hwb
  clear DB db
  have db := db5
  clear db5
  go_upto_region 6 with fail
  have HN := Lib.hid nb
  have HF := Lib.hid fb
  clear nb
  have kF : ∀ W, Below w50.heap.size w50 W → W.cell? ⟨b5, 0, none⟩ = some (.string ⟨#[84]⟩) ∧ W.cell? ⟨b5, 1, none⟩ = some (.int .i64 3) ∧ W.cell? ⟨b5, 2, none⟩ = some (.slice Auc5 1 cuc5) ∧ W.cell? ⟨b5, 3, none⟩ = some (.slice (some ⟨gc5, 0, none⟩) 2 crc5) := fun W q => by
    have f := HF.out.below q (by omega)
    exact ⟨f.c0, f.c1, f.c2, f.c3⟩
  have k1 := fun W (q : Below w50.heap.size w50 W) => (rec_lit ⟨#[99]⟩ (-1) (by omega) (by omega) (by decide) HDC0.out W (HT.out.below (db.trans (q.mono db.size)))).mono (R' := fun e w' => ∃ A c, e = .returned (.agg #[.string ⟨#[99]⟩, .slice A DC0.length c]) ∧ w'.ownsRow w50.heap.size 60 5 (.slice A DC0.length c) DC0.length (cv DC0) ∧ Below W.heap.size W w') fun e w' h => by
    obtain ⟨A, c, e1, o, b⟩ := h
    exact ⟨A, c, e1, own_base o q.size, b⟩
  have k2 := fun (W WX : World) (A : Option Addr) (c : Nat) (q : Below w50.heap.size w50 W) (qX : Below WX.heap.size WX W) (o : WX.ownsRow w50.heap.size 60 5 (.slice A DC0.length c) DC0.length (cv DC0)) => put_new small4 (rC (-1)) small4_W rC0_W (nm := ⟨#[84]⟩) (mo := 3) (nu := 1) (nr := 2) (id := ⟨#[99]⟩) rfl rfl rfl rfl rfl HDC0.out w50 WX W _ _ _ _ _ _ HN.out q A c o qX (HT.out.below (db.trans (q.mono db.size))) put_c0 (nr' := 3) rfl rfl rfl rfl (by omega)
  unfold NewRes at k2
  have K1 := Lib.hid k1
  have K2 := Lib.hid k2
  have KF := Lib.hid kF
  have DB := Lib.hid db
  obtain ⟨x0, x1, x2, x3⟩ := kF w50 (Below.refl _ _)
  clear k1 k2 kF
  go_cut [7] (CutBox w b5 small5 ⟨#[84]⟩ 3 1 3)
  case first =>
    go_region_with (first
      | (go_at_call 18; (with_reducible refine (K1.out _ ?_).mono ?_); exact (by repeat (first | assumption | exact Below.refl _ _ | refine Below.drew ?_ | refine Below.alloc ?_ (by first | assumption | exact Nat.le_refl _ | omega | (simp; done) | (simp; omega)) _ | refine Below.setCell ?_ (by first | assumption | exact Nat.le_refl _ | omega | (simp; done) | (simp; omega)) _)); rintro e wx ⟨Ax, cx, rfl, hox, hqx⟩; have hbx : Below w50.heap.size w50 wx := Below.trans (by repeat (first | assumption | exact Below.refl _ _ | refine Below.drew ?_ | refine Below.alloc ?_ (by first | assumption | exact Nat.le_refl _ | omega | (simp; done) | (simp; omega)) _ | refine Below.setCell ?_ (by first | assumption | exact Nat.le_refl _ | omega | (simp; done) | (simp; omega)) _)) (hqx.mono (by first | assumption | exact Nat.le_refl _ | omega | (simp; done) | (simp; omega))); have hsx := hbx.size; have yx := KF.out wx hbx; obtain ⟨y0, y1, y2, y3⟩ := yx)
      | (go_at_call 10; (with_reducible refine (K2.out _ wx Ax cx ?_ ?_ hox).mono ?_); exact (by repeat (first | assumption | exact Below.refl _ _ | refine Below.drew ?_ | refine Below.alloc ?_ (by first | assumption | exact Nat.le_refl _ | omega | (simp; done) | (simp; omega)) _ | refine Below.setCell ?_ (by first | assumption | exact Nat.le_refl _ | omega | (simp; done) | (simp; omega)) _)); exact (by repeat (first | assumption | exact Below.refl _ _ | refine Below.drew ?_ | refine Below.alloc ?_ (by first | assumption | exact Nat.le_refl _ | omega | (simp; done) | (simp; omega)) _ | refine Below.setCell ?_ (by first | assumption | exact Nat.le_refl _ | omega | (simp; done) | (simp; omega)) _)); rintro e wz ⟨Auz, cuz, gz, crz, rfl, nz, hqz⟩; have hbz : Below w50.heap.size w50 wz := Below.trans (by repeat (first | assumption | exact Below.refl _ _ | refine Below.drew ?_ | refine Below.alloc ?_ (by first | assumption | exact Nat.le_refl _ | omega | (simp; done) | (simp; omega)) _ | refine Below.setCell ?_ (by first | assumption | exact Nat.le_refl _ | omega | (simp; done) | (simp; omega)) _)) (hqz.mono (by first | assumption | exact Nat.le_refl _ | omega | (simp; done) | (simp; omega))); have fz := HF.out.below hbz (by omega); obtain ⟨z0, z1, z2, z3, zf⟩ := id fz; have zf0 := zf 0; have zf1 := zf 1; have zf2 := zf 2; have zf3 := zf 3; clear zf))
    all_goals go_wp2_with fail
    all_goals go_meet
    all_goals exact ⟨rfl, box_put DB.out ls lb HF.out hbz (nz.base hsx)⟩
  case rest =>
  clear HN HF K1 K2 KF x0 x1 x2 x3
  obtain ⟨rfl, Auc6, cuc6, gc6, crc6, db6, _, lb, fb, nb⟩ := hcut
  obtain ⟨w60, hwb⟩ : ∃ W, W = wc := ⟨_, rfl⟩
  rw [← hwb] at db6 lb fb nb ⊢
  clear hwb
  clear DB db
  have db := db6
  clear db6
  have d60 := db
  clear db nb
  have FB := Lib.hid fb
  clear fb
  have c := small_lit w60 (HT.out.below d60)
  go_wp2_with fail
  refine c.mono ?_
  rintro e w61 ⟨Au61, cu61, g61, rfl, n61, hb61⟩
  clear c
  have u61 : Below w60.heap.size w60 w61 := hb61
  have d61 := d60.trans (u61.mono d60.size)
  have c := rec_lit ⟨#[97]⟩ 3 (by omega) (by omega) (by decide) HDA3.out w61 (HT.out.below d61)
  go_wp2_with fail
  refine c.mono ?_
  rintro e w62 ⟨A62, c62, rfl, o62, hb62⟩
  clear c
  have u62 : Below w61.heap.size w61 w62 := hb62
  have d62 := d61.trans (u62.mono d61.size)
  have c := set_new smallT (rA 3) small_W rA3_W (nm := ⟨#[84]⟩) (mo := 2) (nu := 1) (nr := 1) (id := ⟨#[97]⟩) rfl rfl rfl rfl rfl HDA3.out w61 w62 w62 _ _ _ _ _ _ n61 (hb62) _ _ o62 (Below.refl _ _) (HT.out.below d62) set_a3' (nr' := 1) rfl rfl rfl rfl (by omega)
  unfold NewRes at c
  go_wp2_with fail
  refine c.mono ?_
  rintro e w63 ⟨Au63, cu63, g63, cr63, rfl, n63, hb63⟩
  clear c
  have u63 : Below w62.heap.size w62 w63 := hb63
  have d63 := d62.trans (u63.mono d62.size)
  clear n61 o62
  have HN8 := Lib.hid n63
  clear n63
  have c := fun (o : Obj) => small_lit (w63.alloc o) (HT.out.below (d63.alloc d63.size o))
  go_wp2_with fail
  refine (c _).mono ?_
  rintro e w64 ⟨Au64, cu64, g64, rfl, n64, hb64⟩
  clear c
  have u64 : Below w63.heap.size w63 w64 := ((Below.refl _ _).alloc (Nat.le_refl _) _).trans (hb64.mono (by simp))
  have d64 := d63.trans (u64.mono d63.size)
  have c := rec_lit ⟨#[98]⟩ 3 (by omega) (by omega) (by decide) HDB3.out w64 (HT.out.below d64)
  go_wp2_with fail
  refine c.mono ?_
  rintro e w65 ⟨A65, c65, rfl, o65, hb65⟩
  clear c
  have u65 : Below w64.heap.size w64 w65 := hb65
  have d65 := d64.trans (u65.mono d64.size)
  have c := set_zero smallT (rB 3) small_W rB3_W (nm := ⟨#[84]⟩) (mo := 2) (nu := 1) (nr := 1) (id := ⟨#[98]⟩) rfl rfl rfl rfl rfl HDB3.out w64 w65 w65 _ _ _ _ _ _ n64 (hb65) _ _ o65 (Below.refl _ _) (HT.out.below d65) set_b3
  unfold ZeroRes at c
  go_wp2_with fail
  refine c.mono ?_
  rintro e w66 ⟨Au66, cu66, Ar66, cr66, rfl, hb66⟩
  clear c
  have u66 : Below w65.heap.size w65 w66 := hb66
  have d66 := d65.trans (u66.mono d65.size)
  clear n64 o65
  have v8_64 := u64
  have v8 := u64.trans ((u65.trans (u66.mono u65.size)).mono u64.size)
  have c := fun (o : Obj) => small_lit (w66.alloc o) (HT.out.below (d66.alloc d66.size o))
  go_wp2_with fail
  refine (c _).mono ?_
  rintro e w67 ⟨Au67, cu67, g67, rfl, n67, hb67⟩
  clear c
  have u67 : Below w66.heap.size w66 w67 := ((Below.refl _ _).alloc (Nat.le_refl _) _).trans (hb67.mono (by simp))
  have d67 := d66.trans (u67.mono d66.size)
  have c := drop_zero smallT small_W (nm := ⟨#[84]⟩) (mo := 2) (nu := 1) (nr := 1) ⟨#[98]⟩ rfl rfl rfl rfl w67 w67 _ _ _ _ _ n67 (Below.refl _ _) (HT.out.below d67) drop_b
  unfold ZeroRes at c
  go_wp2_with fail
  refine c.mono ?_
  rintro e w68 ⟨Au68, cu68, Ar68, cr68, rfl, hb68⟩
  clear c
  have u68 : Below w67.heap.size w67 w68 := hb68
  have d68 := d67.trans (u68.mono d67.size)
  clear n67
  have c := fun (o : Obj) => small_lit (w68.alloc o) (HT.out.below (d68.alloc d68.size o))
  go_wp2_with fail
  refine (c _).mono ?_
  rintro e w69 ⟨Au69, cu69, g69, rfl, n69, hb69⟩
  clear c
  have u69 : Below w68.heap.size w68 w69 := ((Below.refl _ _).alloc (Nat.le_refl _) _).trans (hb69.mono (by simp))
  have d69 := d68.trans (u69.mono d68.size)
  have c := rec_lit ⟨#[121]⟩ 1 (by omega) (by omega) (by decide) HDY1.out w69 (HT.out.below d69)
  go_wp2_with fail
  refine c.mono ?_
  rintro e w70 ⟨A70, c70, rfl, o70, hb70⟩
  clear c
  have u70 : Below w69.heap.size w69 w70 := hb70
  have d70 := d69.trans (u70.mono d69.size)
  go_wp2_with fail
  rw [field_data]
  have c := put_zero smallT yRec small_W yRec_W (nm := ⟨#[84]⟩) (mo := 2) (nu := 1) (nr := 1) (id := ⟨#[122]⟩) rfl rfl rfl rfl rfl HDY1.out w69 w70 w70 _ _ _ _ _ _ n69 (hb70) _ _ o70 (Below.refl _ _) (HT.out.below d70) put_z'
  unfold ZeroRes at c
  go_wp2_with fail
  refine c.mono ?_
  rintro e w71 ⟨Au71, cu71, Ar71, cr71, rfl, hb71⟩
  clear c
  have u71 : Below w70.heap.size w70 w71 := hb71
  have d71 := d70.trans (u71.mono d70.size)
  clear n69 o70
  go_upto_region 11 with fail
  have v60_60 := Below.refl w60.heap.size w60
  have v60_61 := v60_60.trans (u61.mono v60_60.size)
  have v60_62 := v60_61.trans (u62.mono v60_61.size)
  have v60_63 := v60_62.trans (u63.mono v60_62.size)
  have v60_64 := v60_63.trans (u64.mono v60_63.size)
  have v60_65 := v60_64.trans (u65.mono v60_64.size)
  have v60_66 := v60_65.trans (u66.mono v60_65.size)
  have v60_67 := v60_66.trans (u67.mono v60_66.size)
  have v60_68 := v60_67.trans (u68.mono v60_67.size)
  have v60_69 := v60_68.trans (u69.mono v60_68.size)
  have v60_70 := v60_69.trans (u70.mono v60_69.size)
  have v60_71 := v60_70.trans (u71.mono v60_70.size)
  have v63_63 := Below.refl w63.heap.size w63
  have v63_64 := v63_63.trans (u64.mono v63_63.size)
  have v63_65 := v63_64.trans (u65.mono v63_64.size)
  have v63_66 := v63_65.trans (u66.mono v63_65.size)
  have v63_67 := v63_66.trans (u67.mono v63_66.size)
  have v63_68 := v63_67.trans (u68.mono v63_67.size)
  have v63_69 := v63_68.trans (u69.mono v63_68.size)
  have v63_70 := v63_69.trans (u70.mono v63_69.size)
  have v63_71 := v63_70.trans (u71.mono v63_70.size)
  have v64_64 := Below.refl w64.heap.size w64
  have v64_65 := v64_64.trans (u65.mono v64_64.size)
  have v64_66 := v64_65.trans (u66.mono v64_65.size)
  have v64_67 := v64_66.trans (u67.mono v64_66.size)
  have v64_68 := v64_67.trans (u68.mono v64_67.size)
  have v64_69 := v64_68.trans (u69.mono v64_68.size)
  have v64_70 := v64_69.trans (u70.mono v64_69.size)
  have v64_71 := v64_70.trans (u71.mono v64_70.size)
  obtain ⟨wE, hwE⟩ : ∃ W, W = w71.alloc (.cells #[.string ⟨#[]⟩, .int .i64 0, .slice Au71 0 cu71, .slice Ar71 0 cr71] 25) := ⟨_, rfl⟩
  rw [← hwE]
  have uE : Below w71.heap.size w71 wE := by rw [hwE]; exact (Below.refl _ _).alloc (Nat.le_refl _) _
  clear hwE
  have dE := d71.trans (uE.mono d71.size)
  have vE60 := v60_71.trans (uE.mono v60_71.size)
  have vE63 := v63_71.trans (uE.mono v63_71.size)
  have fb8 : Four wE w63.heap.size (.string ⟨#[84]⟩) (.int .i64 2) (.slice Au63 1 cu63) (.slice (some ⟨g63, 0, none⟩) 1 cr63) := by
    have y := four_new hb64
    refine (y.below (B := w64.heap.size) ?_ (four_lt y)).below uE ?_
    · exact v64_71
    · exact Nat.lt_of_lt_of_le (four_lt y) v64_71.size
  obtain ⟨_, ⟨vs8, hg8, _, hk8⟩, _, _⟩ := HN8.out
  obtain ⟨h80, A8, c8, h81, o8⟩ := hk8 0 (by decide) (by decide)
  obtain ⟨l0, e0⟩ := List.getElem?_eq_some_iff.1 h80
  obtain ⟨l1, e1⟩ := List.getElem?_eq_some_iff.1 h81
  have j0 : w63.cell? ⟨g63, 0, none⟩ = some (.string ⟨#[97]⟩) := by rw [cells_read hg8 _ l0, e0]; rfl
  have j1 : w63.cell? ⟨g63, 1, none⟩ = some (.slice A8 DA3.length c8) := by rw [cells_read hg8 _ l1, e1, ← HDA3.out]; rfl
  have lg : g63 < w63.heap.size := (Array.getElem?_eq_some_iff.1 hg8).1
  have o8' : w63.ownsRow w62.heap.size 60 5 (.slice A8 (rA 3).data.length c8) (rA 3).data.length (cv (rA 3).data) := o8
  clear hk8 h80 h81 e0 e1 o8 hg8
  have kS : ∀ W, Below wE.heap.size wE W → W.cell? ⟨b5, 3, none⟩ = some (.slice (some ⟨gc6, 0, none⟩) 3 crc6) ∧ W.cell? ⟨w63.heap.size, 3, none⟩ = some (.slice (some ⟨g63, 0, none⟩) 1 cr63) ∧ W.cell? ⟨g63, 0, none⟩ = some (.string ⟨#[97]⟩) ∧ W.cell? ⟨g63, 1, none⟩ = some (.slice A8 DA3.length c8) := fun W q =>
    ⟨((FB.out.below (vE60.trans (q.mono vE60.size)) lb).c3), (fb8.below q (four_lt fb8)).c3, ((vE63.trans (q.mono vE63.size)).cell (p := ⟨g63, 0, none⟩) lg).trans j0, ((vE63.trans (q.mono vE63.size)).cell (p := ⟨g63, 1, none⟩) lg).trans j1⟩
  have k1 := fun W (q : Below wE.heap.size wE W) => (alive_any W (HT.out.below (dE.trans (q.mono dE.size)))).mono (R' := fun e w' => e = .returned (.bool true) ∧ Below wE.heap.size wE w') fun e w' h => ⟨h.1, q.trans (h.2.mono q.size)⟩
  have k2 := fun W (q : Below wE.heap.size wE W) => (rec_lit ⟨#[97]⟩ 3 (by omega) (by omega) (by decide) HDA3.out W (HT.out.below (dE.trans (q.mono dE.size)))).mono (R' := fun e w' => ∃ A c, e = .returned (.agg #[.string ⟨#[97]⟩, .slice A DA3.length c]) ∧ w'.ownsRow wE.heap.size 60 5 (.slice A DA3.length c) DA3.length (cv DA3) ∧ Below wE.heap.size wE w') fun e w' h => by
    obtain ⟨A, c, e1, o, b⟩ := h
    exact ⟨A, c, e1, own_base o q.size, q.trans (b.mono q.size)⟩
  have k3 : ∀ (W WX : World) (A : Option Addr) (c : Nat), Below wE.heap.size wE W → Below WX.heap.size WX W → WX.ownsRow wE.heap.size 60 5 (.slice A DA3.length c) DA3.length (cv DA3) → Calls Tryd.prog 15 #[.agg #[.string ⟨#[97]⟩, .slice A8 DA3.length c8], .agg #[.string ⟨#[97]⟩, .slice A DA3.length c]] W fun e w' => e = .returned (.bool true) ∧ Below wE.heap.size wE w' := by
    intro W WX A c q qX o
    rw [← HDA3.out] at o ⊢
    have h := same_rec (rA 3) (rA 3) A8 A c8 c W ((rd_ofK2 o8').thru (vE63.trans (q.mono vE63.size)) (Nat.le_refl _)) ((rd_ofK2 o).thru qX (Nat.le_refl _)) (Nat.le_trans vE63.size q.size) qX.size (by have := rA3_W.len; omega)
    rw [(sameR_iff _ _).2 rfl] at h
    exact h.mono fun e w' hh => ⟨hh.1, q.trans (hh.2.mono q.size)⟩
  have K1 := Lib.hid k1
  have K2 := Lib.hid k2
  have K3 := Lib.hid k3
  have KS := Lib.hid kS
  have DE := Lib.hid dE
  obtain ⟨x0, x1, x2, x3⟩ := kS wE (Below.refl _ _)
  clear k1 k2 k3 kS fb8 j0 j1 o8'
  go_region_held3 (fun W => W.cell? ⟨b5, 3, none⟩ = some (.slice (some ⟨gc6, 0, none⟩) 3 crc6) ∧ W.cell? ⟨w63.heap.size, 3, none⟩ = some (.slice (some ⟨g63, 0, none⟩) 1 cr63) ∧ W.cell? ⟨g63, 0, none⟩ = some (.string ⟨#[97]⟩) ∧ W.cell? ⟨g63, 1, none⟩ = some (.slice A8 DA3.length c8))
    (exact KS.out _ (by repeat (first | assumption | exact Below.refl _ _ | refine Below.drew ?_ | refine Below.alloc ?_ (by first | assumption | exact Nat.le_refl _ | omega | (simp; done) | (simp; omega)) _ | refine Below.setCell ?_ (by first | assumption | exact Nat.le_refl _ | omega | (simp; done) | (simp; omega)) _)))
    (first
      | (go_at_call 7; (with_reducible refine (K1.out _ ?_).mono ?_); exact (by repeat (first | assumption | exact Below.refl _ _ | refine Below.drew ?_ | refine Below.alloc ?_ (by first | assumption | exact Nat.le_refl _ | omega | (simp; done) | (simp; omega)) _ | refine Below.setCell ?_ (by first | assumption | exact Nat.le_refl _ | omega | (simp; done) | (simp; omega)) _)); rintro e wa ⟨rfl, hba⟩)
      | (go_at_call 18; (with_reducible refine (K2.out _ ?_).mono ?_); exact (by repeat (first | assumption | exact Below.refl _ _ | refine Below.drew ?_ | refine Below.alloc ?_ (by first | assumption | exact Nat.le_refl _ | omega | (simp; done) | (simp; omega)) _ | refine Below.setCell ?_ (by first | assumption | exact Nat.le_refl _ | omega | (simp; done) | (simp; omega)) _)); rintro e wr ⟨Ax, cx, rfl, hox, hbr⟩)
      | (go_at_call 15; (with_reducible refine (K3.out _ wr Ax cx ?_ ?_ hox).mono ?_); exact (by repeat (first | assumption | exact Below.refl _ _ | refine Below.drew ?_ | refine Below.alloc ?_ (by first | assumption | exact Nat.le_refl _ | omega | (simp; done) | (simp; omega)) _ | refine Below.setCell ?_ (by first | assumption | exact Nat.le_refl _ | omega | (simp; done) | (simp; omega)) _)); exact (by repeat (first | assumption | exact Below.refl _ _ | refine Below.drew ?_ | refine Below.alloc ?_ (by first | assumption | exact Nat.le_refl _ | omega | (simp; done) | (simp; omega)) _ | refine Below.setCell ?_ (by first | assumption | exact Nat.le_refl _ | omega | (simp; done) | (simp; omega)) _)); rintro e wz ⟨rfl, hbz⟩))
  go_wp2
  go_ret
  exact ⟨rfl, DE.out.trans (Below.mono (by repeat (first | assumption | exact Below.refl _ _ | refine Below.drew ?_ | refine Below.alloc ?_ (by first | assumption | exact Nat.le_refl _ | omega | (simp; done) | (simp; omega)) _ | refine Below.setCell ?_ (by first | assumption | exact Nat.le_refl _ | omega | (simp; done) | (simp; omega)) _)) DE.out.size)⟩
end Go.Proofs.YtcgioepbooafcaaDoor
