/- The reference's Added and Turned. Conditions: lengths within the model's; all data may be. -/
import Derived.Test.YtcgioepbooafcaaGreatDoorTR12
import Derived.Deep.RegionHeld3
namespace Go.Proofs.YtcgioepbooafcaaGreatDoor
open Go.RowKit
def addedQ (t : TabC) (r : RecC) : TabC × Int := if Tb.hasId t.rows r.id = true then (zeroT, 271) else (if Tb.clashes ordC t r = true then (zeroT, 271) else (if t.most ≤ t.rows.length then (zeroT, 272) else ({ t with rows := wiF r false t.rows }, 0)))
def turnedQ (t : TabC) (r : RecC) : TabC × Int := if Tb.hasId t.rows r.id = true then (if Tb.clashes ordC t r = true then (zeroT, 271) else ({ t with rows := wiF r false (woF r.id t.rows) }, 0)) else (zeroT, 270)
/-- a table that may be asked for clashes, and a record -/
structure Both (w : World) (B : Nat) (t : TabC) (Au Ar : Option Addr) (B' : Nat) (r : RecC) (A : Option Addr) (c : Nat) : Prop where
  tab : RTab w B t Au Ar
  may : ∀ x ∈ t.rows, mayC x.data = true
  rcd : RRec w B' r A c
  mr : mayC r.data = true
  idl : r.id.size ≤ maxLen
theorem Both.below {w w' : World} {B : Nat} {t : TabC} {Au Ar : Option Addr} {B' : Nat} {r : RecC} {A : Option Addr} {c : Nat} (h : Both w B t Au Ar B' r A c) (q : Below w.heap.size w w') : Both w' B t Au Ar B' r A c := ⟨h.tab.below q, h.may, h.rcd.below q, h.mr, h.idl⟩
theorem wo_tab {w W : World} {B : Nat} {t : TabC} {Au Ar : Option Addr} (h : RTab w B t Au Ar) {id : ByteArray} {base : Nat} {A3 : Option Addr} {c3 : Nat} {Ar3 : Option Addr} {cr3 m : Nat} (ou : W.ownsRow base 9 1 (.slice A3 m c3) m (sv t.us)) (orr : OwnRows W base Ar3 cr3 (woF id t.rows)) : RTab W W.heap.size { t with rows := woF id t.rows } A3 Ar3 := by
  have hs : ∀ r ∈ woF id t.rows, r ∈ t.rows := fun r hr => (List.mem_filter.1 hr).1
  have hl : (woF id t.rows).length ≤ t.rows.length := List.length_filter_le _ _
  exact ⟨rd_ofK2 ou, orr.recs, Nat.le_refl _, fun r hr => h.wf r (hs r hr), fun r hr => h.len r (hs r hr), fun r hr => h.ids r (hs r hr), h.ul, by have := h.rl; show (woF id t.rows).length ≤ 1000; omega⟩
set_option maxRecDepth 100000 in
set_option maxHeartbeats 16000000 in
theorem radded_any (t : TabC) (r : RecC) (Au : Option Addr) (cu : Nat) (Ar : Option Addr) (cr : Nat) (A : Option Addr) (c : Nat) (w : World) {B B' : Nat} (h : Both w B t Au Ar B' r A c) :
    Calls Tryz.prog 33 #[.agg #[.string t.name, .int .i64 t.most, .slice Au t.us.length cu, .slice Ar t.rows.length cr], .agg #[.string r.id, .slice A r.data.length c]] w fun e w' => RRes (addedQ t r).1 (addedQ t r).2 w e w' := by
  obtain ⟨W1, hW1⟩ : ∃ W1, W1 = (Box2r w t r Au cu Ar cr A c).alloc (.cells #[.string ⟨#[]⟩, .int .i64 0, .slice none 0 0, .slice none 0 0] 25) := ⟨_, rfl⟩
  have F := f3z_mk w t r Au cu Ar cr A c hW1
  unfold Box2r at hW1
  have HF := Lib.hid F
  have dW : ∀ W, Below W1.heap.size W1 W → Below w.heap.size w W := fun W q => F.b.trans (q.mono F.b.size)
  have DW := Lib.hid dW
  have crw := fun W (q : Below W1.heap.size W1 W) => rrow_any t r.id Au cu Ar cr W (h.tab.below (dW W q))
  have ccl := fun W (q : Below W1.heap.size W1 W) => rclashes_any t r Au cu Ar cr A c W (h.tab.below (dW W q)) h.may (h.rcd.below (dW W q)) h.mr
  have cwi := fun W (q : Below W1.heap.size W1 W) => rwith_any t r Au cu Ar cr A c W (h.tab.below (dW W q)) (h.rcd.below (dW W q)) h.idl
  have cwo := fun W (q : Below W1.heap.size W1 W) => rwithout_any t r.id Au cu Ar cr W (h.tab.below (dW W q))
  have hrl := h.tab.rl
  obtain ⟨n, hn⟩ : ∃ n, t.rows.length = n := ⟨_, rfl⟩
  obtain ⟨m, hm⟩ : ∃ m, t.us.length = m := ⟨_, rfl⟩
  have kt : ∀ W, Below W1.heap.size W1 W → Four W w.heap.size (.string t.name) (.int .i64 t.most) (.slice Au m cu) (.slice Ar n cr) := fun W q => by have := F.t W q; rw [hm, hn] at this; exact this
  have KT := Lib.hid kt
  have HH := Lib.hid (And.intro h (And.intro hm hn))
  unfold addedQ
  simp only [hn, hm] at crw ccl cwi cwo
  rw [hn] at hrl hW1 ⊢
  rw [hm] at hW1 ⊢
  have HW1 := Lib.hid hW1
  have kr : ∀ W, Below W1.heap.size W1 W → W.cell? ⟨w.heap.size + 1, 0, none⟩ = some (.string r.id) ∧ W.cell? ⟨w.heap.size + 1, 1, none⟩ = some (.slice A r.data.length c) := fun W q => F.r W q
  have KR := Lib.hid kr
  obtain ⟨f0, f1, f2, f3, _⟩ := kt W1 (Below.refl _ _)
  obtain ⟨p0, p1⟩ := kr W1 (Below.refl _ _)
  have z1 := Below.refl W1.heap.size W1
  obtain ⟨C, hC⟩ : ∃ C, Tb.clashes ordC t r = C := ⟨_, rfl⟩
  simp only [hC] at ccl ⊢
  have CRW := Lib.hid crw
  have CCL := Lib.hid ccl
  have CWI := Lib.hid (fun W q => (cwi W q).mono fun e w' hh => hh.lit hm)
  have CWO := Lib.hid (fun W q => (cwo W q).mono fun e w' hh => hh.lit hm)
  have HM := Lib.hid hm
  clear hC crw ccl cwi cwo
  cases hh : Tb.hasId t.rows r.id with
  | true =>
    obtain ⟨hneg, hge⟩ := rowI_pos hh
    simp only [if_true]
    obtain ⟨R, hR⟩ : ∃ R, rowI t.rows r.id = R := ⟨_, rfl⟩
    have CRW2 := CRW
    simp only [hR] at CRW2 hneg hge
    clear hR CRW hh hm hn hW1 kt kr F dW h
    go_enter Tryz.func33, Tryz.ntmps33
    have cc := CRW2.out W1 z1
    go_wp2_with fail
    rw [← HW1.out]
    refine cc.mono ?_
    rintro e w2 ⟨rfl, qw2⟩
    clear cc
    have dw2 := qw2
    have G := HF.out.o w2 dw2
    have GH := Lib.hid G
    obtain ⟨g0, g1, g2, g3, gf⟩ := G
    have gf0 := gf 0
    have gf1 := gf 1
    have gf2 := gf 2
    have gf3 := gf 3
    clear gf
    go_wp2
    refine bodyPost_ret (v := .tuple #[.agg #[.string ⟨#[]⟩, .int .i64 0, .slice none 0 0, .slice none 0 0], .int .i64 271]) ?_ rfl (rres_zero 271 (below_four (DW.out _ dw2) (by omega) _ _ _ _))
    rw [results_cell_tmp rfl]
    exact load_tab2 _ _ _ _ (four_zero GH.out) rfl rfl
  | false =>
    obtain ⟨hneg, hge⟩ := rowI_neg hh
    simp only [Bool.false_eq_true, if_false]
    obtain ⟨R, hR⟩ : ∃ R, rowI t.rows r.id = R := ⟨_, rfl⟩
    have CRW2 := CRW
    simp only [hR] at CRW2 hneg hge
    clear hR CRW hh hm hn hW1 kt kr F dW h
    cases C with
    | true =>
      simp only [if_true]
      go_enter Tryz.func33, Tryz.ntmps33
      have cc := CRW2.out W1 z1
      go_wp2_with fail
      rw [← HW1.out]
      refine cc.mono ?_
      rintro e w2 ⟨rfl, qw2⟩
      clear cc
      have dw2 := qw2
      clear f0 f1 f2 f3 p0 p1
      obtain ⟨f0, f1, f2, f3, _⟩ := KT.out w2 dw2
      obtain ⟨p0, p1⟩ := KR.out w2 dw2
      have cc := CCL.out w2 dw2
      go_wp2_with fail
      refine cc.mono ?_
      rintro e w3 ⟨rfl, qw3⟩
      clear cc
      have dw3 := dw2.trans (qw3.mono dw2.size)
      have G := HF.out.o w3 dw3
      have GH := Lib.hid G
      obtain ⟨g0, g1, g2, g3, gf⟩ := G
      have gf0 := gf 0
      have gf1 := gf 1
      have gf2 := gf 2
      have gf3 := gf 3
      clear gf
      go_wp2
      refine bodyPost_ret (v := .tuple #[.agg #[.string ⟨#[]⟩, .int .i64 0, .slice none 0 0, .slice none 0 0], .int .i64 271]) ?_ rfl (rres_zero 271 (below_four (DW.out _ dw3) (by omega) _ _ _ _))
      rw [results_cell_tmp rfl]
      exact load_tab2 _ _ _ _ (four_zero GH.out) rfl rfl
    | false =>
      simp only [Bool.false_eq_true, if_false]
      by_cases hle : t.most ≤ n
      · rw [if_pos hle]
        have hleI : decide (t.most ≤ (n : Int)) = true := decide_eq_true hle
        go_enter Tryz.func33, Tryz.ntmps33
        have cc := CRW2.out W1 z1
        go_wp2_with fail
        rw [← HW1.out]
        refine cc.mono ?_
        rintro e w2 ⟨rfl, qw2⟩
        clear cc
        have dw2 := qw2
        clear f0 f1 f2 f3 p0 p1
        obtain ⟨f0, f1, f2, f3, _⟩ := KT.out w2 dw2
        obtain ⟨p0, p1⟩ := KR.out w2 dw2
        have cc := CCL.out w2 dw2
        go_wp2_with fail
        refine cc.mono ?_
        rintro e w3 ⟨rfl, qw3⟩
        clear cc
        have dw3 := dw2.trans (qw3.mono dw2.size)
        clear f0 f1 f2 f3 p0 p1
        obtain ⟨f0, f1, f2, f3, _⟩ := KT.out w3 dw3
        have G := HF.out.o w3 dw3
        have GH := Lib.hid G
        obtain ⟨g0, g1, g2, g3, gf⟩ := G
        have gf0 := gf 0
        have gf1 := gf 1
        have gf2 := gf 2
        have gf3 := gf 3
        clear gf
        go_wp2
        refine bodyPost_ret (v := .tuple #[.agg #[.string ⟨#[]⟩, .int .i64 0, .slice none 0 0, .slice none 0 0], .int .i64 272]) ?_ rfl (rres_zero 272 (below_four (DW.out _ dw3) (by omega) _ _ _ _))
        rw [results_cell_tmp rfl]
        exact load_tab2 _ _ _ _ (four_zero GH.out) rfl rfl
      · rw [if_neg hle]
        have hleI : decide (t.most ≤ (n : Int)) = false := decide_eq_false hle
        obtain ⟨X, hX⟩ : ∃ X, wiF r false t.rows = X := ⟨_, rfl⟩
        simp only [hX] at CWI ⊢
        clear hX
        go_enter Tryz.func33, Tryz.ntmps33
        have cc := CRW2.out W1 z1
        go_wp2_with fail
        rw [← HW1.out]
        refine cc.mono ?_
        rintro e w2 ⟨rfl, qw2⟩
        clear cc
        have dw2 := qw2
        clear f0 f1 f2 f3 p0 p1
        obtain ⟨f0, f1, f2, f3, _⟩ := KT.out w2 dw2
        obtain ⟨p0, p1⟩ := KR.out w2 dw2
        have cc := CCL.out w2 dw2
        go_wp2_with fail
        refine cc.mono ?_
        rintro e w3 ⟨rfl, qw3⟩
        clear cc
        have dw3 := dw2.trans (qw3.mono dw2.size)
        clear f0 f1 f2 f3 p0 p1
        obtain ⟨f0, f1, f2, f3, _⟩ := KT.out w3 dw3
        obtain ⟨p0, p1⟩ := KR.out w3 dw3
        have cc := CWI.out w3 dw3
        go_wp2_with fail
        refine cc.mono ?_
        rintro e w4 ⟨A3, c3, Ar3, cr3, rfl, ou, orr, qw4⟩
        clear cc
        have dw4 := dw3.trans (qw4.mono dw3.size)
        have G := HF.out.o w4 dw4
        have P := rres_put (x := { t with rows := X }) (g := w.heap.size + 1 + 1) 0 rfl rfl HM.out rfl (DW.out _ dw4) (by omega) (by have := HF.out.z; have := dw3.size; omega) ou orr G
        have HP := Lib.hid P
        obtain ⟨g0, g1, g2, g3, gf⟩ := G
        have gf0 := gf 0
        have gf1 := gf 1
        have gf2 := gf 2
        have gf3 := gf 3
        clear f0 f1 f2 f3 p0 p1 gf P ou orr
        go_wp2
        refine bodyPost_ret (v := .tuple #[.agg #[.string t.name, .int .i64 t.most, .slice A3 m c3, .slice Ar3 (X).length cr3], .int .i64 0]) ?_ rfl HP.out.1
        rw [results_cell_tmp rfl]
        exact load_tab2 _ _ _ _ HP.out.2 rfl rfl
set_option maxRecDepth 100000 in
set_option maxHeartbeats 16000000 in
theorem rturned_any (t : TabC) (r : RecC) (Au : Option Addr) (cu : Nat) (Ar : Option Addr) (cr : Nat) (A : Option Addr) (c : Nat) (w : World) {B B' : Nat} (h : Both w B t Au Ar B' r A c) :
    Calls Tryz.prog 34 #[.agg #[.string t.name, .int .i64 t.most, .slice Au t.us.length cu, .slice Ar t.rows.length cr], .agg #[.string r.id, .slice A r.data.length c]] w fun e w' => RRes (turnedQ t r).1 (turnedQ t r).2 w e w' := by
  obtain ⟨W1, hW1⟩ : ∃ W1, W1 = (Box2r w t r Au cu Ar cr A c).alloc (.cells #[.string ⟨#[]⟩, .int .i64 0, .slice none 0 0, .slice none 0 0] 25) := ⟨_, rfl⟩
  have F := f3z_mk w t r Au cu Ar cr A c hW1
  unfold Box2r at hW1
  have HF := Lib.hid F
  have dW : ∀ W, Below W1.heap.size W1 W → Below w.heap.size w W := fun W q => F.b.trans (q.mono F.b.size)
  have DW := Lib.hid dW
  have crw := fun W (q : Below W1.heap.size W1 W) => rrow_any t r.id Au cu Ar cr W (h.tab.below (dW W q))
  have ccl := fun W (q : Below W1.heap.size W1 W) => rclashes_any t r Au cu Ar cr A c W (h.tab.below (dW W q)) h.may (h.rcd.below (dW W q)) h.mr
  have cwi := fun W (q : Below W1.heap.size W1 W) => rwith_any t r Au cu Ar cr A c W (h.tab.below (dW W q)) (h.rcd.below (dW W q)) h.idl
  have cwo := fun W (q : Below W1.heap.size W1 W) => rwithout_any t r.id Au cu Ar cr W (h.tab.below (dW W q))
  have hrl := h.tab.rl
  obtain ⟨n, hn⟩ : ∃ n, t.rows.length = n := ⟨_, rfl⟩
  obtain ⟨m, hm⟩ : ∃ m, t.us.length = m := ⟨_, rfl⟩
  have kt : ∀ W, Below W1.heap.size W1 W → Four W w.heap.size (.string t.name) (.int .i64 t.most) (.slice Au m cu) (.slice Ar n cr) := fun W q => by have := F.t W q; rw [hm, hn] at this; exact this
  have KT := Lib.hid kt
  have HH := Lib.hid (And.intro h (And.intro hm hn))
  unfold turnedQ
  simp only [hn, hm] at crw ccl cwi cwo
  rw [hn] at hrl hW1 ⊢
  rw [hm] at hW1 ⊢
  have HW1 := Lib.hid hW1
  have kr : ∀ W, Below W1.heap.size W1 W → W.cell? ⟨w.heap.size + 1, 0, none⟩ = some (.string r.id) ∧ W.cell? ⟨w.heap.size + 1, 1, none⟩ = some (.slice A r.data.length c) := fun W q => F.r W q
  have KR := Lib.hid kr
  obtain ⟨f0, f1, f2, f3, _⟩ := kt W1 (Below.refl _ _)
  obtain ⟨p0, p1⟩ := kr W1 (Below.refl _ _)
  have z1 := Below.refl W1.heap.size W1
  obtain ⟨C, hC⟩ : ∃ C, Tb.clashes ordC t r = C := ⟨_, rfl⟩
  simp only [hC] at ccl ⊢
  have CRW := Lib.hid crw
  have CCL := Lib.hid ccl
  have CWI := Lib.hid (fun W q => (cwi W q).mono fun e w' hh => hh.lit hm)
  have CWO := Lib.hid (fun W q => (cwo W q).mono fun e w' hh => hh.lit hm)
  have HM := Lib.hid hm
  clear hC crw ccl cwi cwo
  cases hh : Tb.hasId t.rows r.id with
  | false =>
    obtain ⟨hneg, hge⟩ := rowI_neg hh
    simp only [Bool.false_eq_true, if_false]
    obtain ⟨R, hR⟩ : ∃ R, rowI t.rows r.id = R := ⟨_, rfl⟩
    have CRW2 := CRW
    simp only [hR] at CRW2 hneg hge
    clear hR CRW hh hm hn hW1 kt kr F dW h
    go_enter Tryz.func34, Tryz.ntmps34
    have cc := CRW2.out W1 z1
    go_wp2_with fail
    rw [← HW1.out]
    refine cc.mono ?_
    rintro e w2 ⟨rfl, qw2⟩
    clear cc
    have dw2 := qw2
    have G := HF.out.o w2 dw2
    have GH := Lib.hid G
    obtain ⟨g0, g1, g2, g3, gf⟩ := G
    have gf0 := gf 0
    have gf1 := gf 1
    have gf2 := gf 2
    have gf3 := gf 3
    clear gf
    go_wp2
    refine bodyPost_ret (v := .tuple #[.agg #[.string ⟨#[]⟩, .int .i64 0, .slice none 0 0, .slice none 0 0], .int .i64 270]) ?_ rfl (rres_zero 270 (below_four (DW.out _ dw2) (by omega) _ _ _ _))
    rw [results_cell_tmp rfl]
    exact load_tab2 _ _ _ _ (four_zero GH.out) rfl rfl
  | true =>
    obtain ⟨hneg, hge⟩ := rowI_pos hh
    simp only [if_true]
    obtain ⟨R, hR⟩ : ∃ R, rowI t.rows r.id = R := ⟨_, rfl⟩
    have CRW2 := CRW
    simp only [hR] at CRW2 hneg hge
    clear hR CRW hh hm hn hW1 kt kr F dW h
    cases C with
    | true =>
      simp only [if_true]
      go_enter Tryz.func34, Tryz.ntmps34
      have cc := CRW2.out W1 z1
      go_wp2_with fail
      rw [← HW1.out]
      refine cc.mono ?_
      rintro e w2 ⟨rfl, qw2⟩
      clear cc
      have dw2 := qw2
      clear f0 f1 f2 f3 p0 p1
      obtain ⟨f0, f1, f2, f3, _⟩ := KT.out w2 dw2
      obtain ⟨p0, p1⟩ := KR.out w2 dw2
      have cc := CCL.out w2 dw2
      go_wp2_with fail
      refine cc.mono ?_
      rintro e w3 ⟨rfl, qw3⟩
      clear cc
      have dw3 := dw2.trans (qw3.mono dw2.size)
      have G := HF.out.o w3 dw3
      have GH := Lib.hid G
      obtain ⟨g0, g1, g2, g3, gf⟩ := G
      have gf0 := gf 0
      have gf1 := gf 1
      have gf2 := gf 2
      have gf3 := gf 3
      clear gf
      go_wp2
      refine bodyPost_ret (v := .tuple #[.agg #[.string ⟨#[]⟩, .int .i64 0, .slice none 0 0, .slice none 0 0], .int .i64 271]) ?_ rfl (rres_zero 271 (below_four (DW.out _ dw3) (by omega) _ _ _ _))
      rw [results_cell_tmp rfl]
      exact load_tab2 _ _ _ _ (four_zero GH.out) rfl rfl
    | false =>
      simp only [Bool.false_eq_true, if_false]
      obtain ⟨X, hX⟩ : ∃ X, woF r.id t.rows = X := ⟨_, rfl⟩
      have HX := Lib.hid hX
      simp only [hX] at CWO ⊢
      clear hX
      go_enter Tryz.func34, Tryz.ntmps34
      have cc := CRW2.out W1 z1
      go_wp2_with fail
      rw [← HW1.out]
      refine cc.mono ?_
      rintro e w2 ⟨rfl, qw2⟩
      clear cc
      have dw2 := qw2
      clear f0 f1 f2 f3 p0 p1
      obtain ⟨f0, f1, f2, f3, _⟩ := KT.out w2 dw2
      obtain ⟨p0, p1⟩ := KR.out w2 dw2
      have cc := CCL.out w2 dw2
      go_wp2_with fail
      refine cc.mono ?_
      rintro e w3 ⟨rfl, qw3⟩
      clear cc
      have dw3 := dw2.trans (qw3.mono dw2.size)
      clear f0 f1 f2 f3 p0 p1
      have kF : ∀ W, Below (w.heap.size + 1 + 1) w3 W → W.cell? ⟨w.heap.size, 0, none⟩ = some (.string t.name) ∧ W.cell? ⟨w.heap.size, 1, none⟩ = some (.int .i64 t.most) ∧ W.cell? ⟨w.heap.size, 2, none⟩ = some (.slice Au m cu) ∧ W.cell? ⟨w.heap.size, 3, none⟩ = some (.slice Ar n cr) ∧ W.cell? ⟨w.heap.size + 1, 0, none⟩ = some (.string r.id) ∧ W.cell? ⟨w.heap.size + 1, 1, none⟩ = some (.slice A r.data.length c) := fun W q => by
        have f := (KT.out w3 dw3).below q (by omega)
        obtain ⟨p0, p1⟩ := KR.out w3 dw3
        exact ⟨f.c0, f.c1, f.c2, f.c3, (q.cell (p := ⟨w.heap.size + 1, 0, none⟩) (by simp)).trans p0, (q.cell (p := ⟨w.heap.size + 1, 1, none⟩) (by simp)).trans p1⟩
      have hz2 : w.heap.size + 1 + 1 ≤ w3.heap.size := by have := HF.out.z; have := dw3.size; omega
      have hz3 : w.heap.size + 1 + 1 < w3.heap.size := by have := HF.out.z; have := dw3.size; omega
      have kO := fun W (q : Below w3.heap.size w3 W) => (CWO.out W (dw3.trans (q.mono dw3.size)))
      have kI := fun (W W5 : World) (A3 : Option Addr) (c3 : Nat) (Ar3 : Option Addr) (cr3 : Nat) (q : Below w3.heap.size w3 W) (q5 : Below W5.heap.size W5 W) (ou : W5.ownsRow w3.heap.size 9 1 (.slice A3 m c3) m (sv t.us)) (orr : OwnRows W5 w3.heap.size Ar3 cr3 X) => by
        have hT := wo_tab (id := r.id) HH.out.1.tab ou (by rw [HX.out]; exact orr)
        have hR := HH.out.1.rcd.below (DW.out W (dw3.trans (q.mono dw3.size)))
        have cc := rwith_any { t with rows := woF r.id t.rows } r A3 c3 Ar3 cr3 A c W (hT.below q5) hR HH.out.1.idl
        have cc2 := cc.mono fun e w' hh => RTwin.lit (t := t) (R := wiF r false (woF r.id t.rows)) HM.out hh
        simp only [HX.out, HM.out] at cc2
        exact cc2
      have KF := Lib.hid kF
      have KO := Lib.hid kO
      have KI := Lib.hid kI
      obtain ⟨f0, f1, f2, f3, p0, p1⟩ := kF w3 (Below.refl _ _)
      have HGO := Lib.hid (HF.out.o w3 dw3)
      clear kF kO kI
      go_upto_region 5 with fail
      obtain ⟨wo, hwo⟩ : ∃ wo : World, wo = w3 := ⟨_, rfl⟩
      have hq0 : Below (w.heap.size + 1 + 1) w3 wo := by rw [hwo]; exact Below.refl _ _
      have hw0 : Below w3.heap.size w3 wo := by rw [hwo]; exact Below.refl _ _
      rw [← hwo]
      clear hwo
      clear f0 f1 f2 f3 p0 p1
      obtain ⟨f0, f1, f2, f3, p0, p1⟩ := KF.out wo hq0
      go_region_held3 (fun W => W.cell? ⟨w.heap.size, 0, none⟩ = some (.string t.name) ∧ W.cell? ⟨w.heap.size, 1, none⟩ = some (.int .i64 t.most) ∧ W.cell? ⟨w.heap.size, 2, none⟩ = some (.slice Au m cu) ∧ W.cell? ⟨w.heap.size, 3, none⟩ = some (.slice Ar n cr) ∧ W.cell? ⟨w.heap.size + 1, 0, none⟩ = some (.string r.id) ∧ W.cell? ⟨w.heap.size + 1, 1, none⟩ = some (.slice A r.data.length c))
        (exact KF.out _ (by repeat (first | assumption | exact Below.refl _ _ | refine Below.drew ?_ | refine Below.alloc ?_ (by first | assumption | exact Nat.le_refl _ | omega | (simp; done) | (simp; omega)) _ | refine Below.setCell ?_ (by first | assumption | exact Nat.le_refl _ | omega | (simp; done) | (simp; omega)) _)))
        (first
          | (go_at_call 36; (with_reducible refine (KO.out _ ?_).mono ?_); exact (by repeat (first | assumption | exact Below.refl _ _ | refine Below.drew ?_ | refine Below.alloc ?_ (by first | assumption | exact Nat.le_refl _ | omega | (simp; done) | (simp; omega)) _ | refine Below.setCell ?_ (by first | assumption | exact Nat.le_refl _ | omega | (simp; done) | (simp; omega)) _)); rintro e w5 ⟨A5, c5, Ar5, cr5, rfl, ou5, or5, hb5⟩; have hp5 : Below w3.heap.size w3 w5 := hw0.trans (Below.mono (Below.trans (b := wo.drew) (by repeat (first | assumption | exact Below.refl _ _ | refine Below.drew ?_ | refine Below.alloc ?_ (by first | assumption | exact Nat.le_refl _ | omega | (simp; done) | (simp; omega)) _ | refine Below.setCell ?_ (by first | assumption | exact Nat.le_refl _ | omega | (simp; done) | (simp; omega)) _)) hb5) hw0.size); have hq5 : Below (w.heap.size + 1 + 1) w3 w5 := hp5.mono hz2; have hs5 := hp5.size)
          | (go_at_call 65; (with_reducible refine (KI.out _ w5 _ _ _ _ ?_ ?_ (own_base ou5 (by have := hw0.size; first | omega | (simp; omega))) (or5.mono (by have := hw0.size; first | omega | (simp; omega)))).mono ?_); exact (by repeat (first | assumption | exact Below.refl _ _ | refine Below.drew ?_ | refine Below.alloc ?_ (by first | assumption | exact Nat.le_refl _ | omega | (simp; done) | (simp; omega)) _ | refine Below.setCell ?_ (by first | assumption | exact Nat.le_refl _ | omega | (simp; done) | (simp; omega)) _)); exact (by repeat (first | assumption | exact Below.refl _ _ | refine Below.drew ?_ | refine Below.alloc ?_ (by first | assumption | exact Nat.le_refl _ | omega | (simp; done) | (simp; omega)) _ | refine Below.setCell ?_ (by first | assumption | exact Nat.le_refl _ | omega | (simp; done) | (simp; omega)) _)); rintro e w7 ⟨A3, c3, Ar3, cr3, rfl, ou, orr, hb7⟩; have hp7 : Below w3.heap.size w3 w7 := hp5.trans (hb7.mono (by first | omega | (simp; omega))); have hq7 : Below (w.heap.size + 1 + 1) w3 w7 := hp7.mono hz2; have G := HGO.out.below hp7 hz3; obtain ⟨g0, g1, g2, g3, gf⟩ := id G; have gf0 := gf 0; have gf1 := gf 1; have gf2 := gf 2; have gf3 := gf 3; clear gf))
      have d7 := dw3.trans (hp7.mono dw3.size)
      have P := rres_put (x := { t with rows := wiF r false X }) (g := w.heap.size + 1 + 1) 0 rfl rfl HM.out rfl (DW.out _ d7) (by omega) (by first | omega | (simp; omega)) ou orr G
      have HP := Lib.hid P
      clear P
      go_wp2
      refine bodyPost_ret (v := .tuple #[.agg #[.string t.name, .int .i64 t.most, .slice A3 m c3, .slice Ar3 (wiF r false X).length cr3], .int .i64 0]) ?_ rfl HP.out.1
      rw [results_cell_tmp rfl]
      exact load_tab2 _ _ _ _ HP.out.2 rfl rfl
end Go.Proofs.YtcgioepbooafcaaGreatDoor
