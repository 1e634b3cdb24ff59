/- table.Put. Conditions: lengths within the model's; Go's two tables of utf8. -/
import Derived.Test.YtcgioepbooafcaaGreatDoorMSet
namespace Go.Proofs.YtcgioepbooafcaaGreatDoor
open Go.RowKit
def W1z (w : World) (t : TabC) (r : RecC) (Au : Option Addr) (cu : Nat) (Ar : Option Addr) (cr : Nat) (A : Option Addr) (c : Nat) : Nat := (Box3 w t r Au cu Ar cr A c).heap.size
def putT (t : TabC) (r : RecC) : TabC × Int := if mayT t = true then (if oneR r = true then (if hasB (idsL t.rows) r.id = true then (zeroT, 271) else (if Tb.clashes ordC t r = true then (zeroT, 271) else (if ((t.rows.length : Int) == t.most) = true then (zeroT, 272) else ({ t with rows := t.rows.take (before (idsL t.rows) r.id) ++ r :: t.rows.drop (before (idsL t.rows) r.id) }, 0)))) else (zeroT, 8)) else (zeroT, 8)
set_option maxRecDepth 100000 in
set_option maxHeartbeats 16000000 in
theorem put_t (t : TabC) (r : RecC) (Au : Option Addr) (cu : Nat) (Ar : Option Addr) (cr : Nat) (A : Option Addr) (c : Nat) (w : World) {B B' : Nat} (h : TabIn w B t Au Ar) (hw : TabW t) (hri : RecIn w B' r.data A c) (hB' : B' ≤ w.heap.size) (hrw : RecW r) :
    Calls Tryz.prog 9 #[.agg #[.string t.name, .int .i64 t.most, .slice Au t.us.length cu, .slice Ar t.rows.length cr], .agg #[.string r.id, .slice A r.data.length c]] w fun e w' => ResPost (putT t r).1 (putT t r).2 w e w' := by
  have F3 := facts3 w t r Au cu Ar cr A c
  obtain ⟨W1, hW1⟩ : ∃ W1, W1 = Box3 w t r Au cu Ar cr A c := ⟨_, rfl⟩
  rw [← hW1] at F3
  have HF := Lib.hid F3
  have b01 := F3.b
  have hz1 : w.heap.size + 1 + 1 + 1 ≤ W1.heap.size := Nat.le_of_eq F3.z.symm
  have HZ := Lib.hid hz1
  have HH := Lib.hid (And.intro h (And.intro hw (And.intro hri (And.intro hB' hrw))))
  have hT : ∀ W, Below w.heap.size w W → Tabs W := fun W q => h.tabs.below q
  have HT := Lib.hid hT
  obtain ⟨X, hX⟩ : ∃ X, putT t r = X := ⟨_, rfl⟩
  rw [hX]
  unfold putT at hX
  cases hm : mayT t with
  | false =>
    have c1 := begun_no t Au cu Ar cr W1 (h.below b01) hw hm
    obtain rfl : X = (zeroT, 8) := by rw [← hX, hm]; rfl
    dsimp only
    clear h hw hri hB' hrw hT hm b01 F3 hz1 hX
    unfold Box3 at hW1
    subst hW1
    go_enter Tryz.func9, Tryz.ntmps9
    go_wp2_with fail
    refine c1.mono ?_
    rintro e w1 ⟨rfl, hb1⟩
    have F := HF.out.res w1 hb1
    have FH := Lib.hid F
    obtain ⟨a0, a1, a2, a3, af⟩ := F
    have af0 := af 0
    have af1 := af 1
    have af2 := af 2
    have af3 := af 3
    clear af
    go_wp2
    refine bodyPost_ret (v := .tuple #[.agg #[.string ⟨#[]⟩, .int .i64 0, .slice none 0 0, .slice none 0 0], .int .i64 8]) ?_ rfl (res_zero w _ 8 (below_four (HF.out.b.trans (hb1.mono HF.out.b.size)) (by omega) _ _ _ _))
    rw [results_cell_tmp rfl]
    exact load_tab2 _ _ _ _ (four_zero FH.out) rfl rfl
  | true =>
    have c1 := begun_yes t Au cu Ar cr W1 (h.below b01) hw hm
    rw [hm, if_pos rfl] at hX
    have HX := Lib.hid hX
    have HR := Lib.hid (mayT_rises hm)
    unfold BegunPost at c1
    have c2 := fun W (q : Below w.heap.size w W) => one_any r A c W ((hri.thru q hB').inn (Nat.le_trans hB' q.size) hrw (hT W q)) (by have := hrw.len; omega)
    obtain ⟨ON, hON⟩ : ∃ ON, oneR r = ON := ⟨_, rfl⟩
    simp only [hON] at c2
    have HC2 := Lib.hid c2
    have HON := Lib.hid hON
    clear h hw hri hB' hrw hT hm b01 F3 hz1 hX c2 hON
    unfold Box3 at hW1
    subst hW1
    go_enter Tryz.func9, Tryz.ntmps9
    go_wp2_with fail
    refine c1.mono ?_
    rintro e w1 ⟨bk, Au1, cu1, g, rfl, hf, hnt, hbk, hty, hb1⟩
    have d1 := HF.out.b.trans (hb1.mono HF.out.b.size)
    have HFO := Lib.hid hf
    have HN := Lib.hid hnt
    have HTY := Lib.hid hty
    have hbkl := World.block_lt_of_cell? w1 ⟨bk, 0, none⟩ hf.c0
    obtain ⟨k0, k1⟩ := HF.out.rc w1 hb1
    have o1 := HC2.out w1 d1
    clear hf hnt hty c1 HC2
    go_wp2_with fail
    refine o1.mono ?_
    rintro e w2 ⟨rfl, hb2⟩
    clear o1 k0 k1
    have q2 := hb1.trans (hb2.mono hb1.size)
    have d2 := HF.out.b.trans (q2.mono HF.out.b.size)
    cases ON with
    | false =>
      obtain rfl : X = (zeroT, 8) := by rw [← HX.out, HON.out]; rfl
      dsimp only
      have F := HF.out.res w2 q2
      have FH := Lib.hid F
      obtain ⟨a0, a1, a2, a3, af⟩ := F
      have af0 := af 0
      have af1 := af 1
      have af2 := af 2
      have af3 := af 3
      clear af
      go_wp2
      refine bodyPost_ret (v := .tuple #[.agg #[.string ⟨#[]⟩, .int .i64 0, .slice none 0 0, .slice none 0 0], .int .i64 8]) ?_ rfl (res_zero w _ 8 (below_four d2 (by omega) _ _ _ _))
      rw [results_cell_tmp rfl]
      exact load_tab2 _ _ _ _ (four_zero FH.out) rfl rfl
    | true =>
      obtain ⟨h, hw, hri, hB', hrw⟩ := HH.out
      have hf2 := HFO.out.below hb2 hbkl
      have hn2 := HN.out.below hb2 (Nat.le_refl _)
      have bi2 := hn2.book hf2 (HT.out w2 d2) hw
      have c3 := find_any t r.id bk Au1 cu1 (some ⟨g, 0, none⟩) t.rows.length w2 bi2 HR.out
      obtain ⟨P, hP⟩ : ∃ P, before (idsL t.rows) r.id = P := ⟨_, rfl⟩
      obtain ⟨Q, hQ⟩ : ∃ Q, hasB (idsL t.rows) r.id = Q := ⟨_, rfl⟩
      rw [hP, hQ] at c3
      obtain ⟨k0, k1⟩ := HF.out.rc w2 q2
      have HBI := Lib.hid bi2
      have HF2 := Lib.hid hf2
      have HN2 := Lib.hid hn2
      have HP := Lib.hid hP
      have HQ := Lib.hid hQ
      clear h hw hri hB' hrw bi2 hf2 hn2 hP hQ
      go_wp2_with fail
      refine c3.mono ?_
      rintro e w3 ⟨rfl, hb3⟩
      clear c3 k0 k1
      have q3 := q2.trans (hb3.mono q2.size)
      have d3 := HF.out.b.trans (q3.mono HF.out.b.size)
      cases Q with
      | true =>
        obtain rfl : X = (zeroT, 271) := by rw [← HX.out, HON.out, HQ.out]; rfl
        dsimp only
        have F := HF.out.res w3 q3
        have FH := Lib.hid F
        obtain ⟨a0, a1, a2, a3, af⟩ := F
        have af0 := af 0
        have af1 := af 1
        have af2 := af 2
        have af3 := af 3
        clear af
        go_wp2
        refine bodyPost_ret (v := .tuple #[.agg #[.string ⟨#[]⟩, .int .i64 0, .slice none 0 0, .slice none 0 0], .int .i64 271]) ?_ rfl (res_zero w _ 271 (below_four d3 (by omega) _ _ _ _))
        rw [results_cell_tmp rfl]
        exact load_tab2 _ _ _ _ (four_zero FH.out) rfl rfl
      | false =>
        obtain ⟨h, hw, hri, hB', hrw⟩ := HH.out
        have c4 := clash_any t r bk Au1 cu1 (some ⟨g, 0, none⟩) t.rows.length A c w3 (HBI.out.below hb3) (hri.thru d3 hB') (Nat.le_trans hB' d3.size) hrw
        obtain ⟨C, hC⟩ : ∃ C, Tb.clashes ordC t r = C := ⟨_, rfl⟩
        rw [hC] at c4
        obtain ⟨k0, k1⟩ := HF.out.rc w3 q3
        have HC := Lib.hid hC
        clear h hw hri hB' hrw hC
        go_wp2_with fail
        refine c4.mono ?_
        rintro e w4 ⟨rfl, hb4⟩
        clear c4 k0 k1
        have q4 := q3.trans (hb4.mono q3.size)
        have d4 := HF.out.b.trans (q4.mono HF.out.b.size)
        cases C with
        | true =>
          obtain rfl : X = (zeroT, 271) := by rw [← HX.out, HON.out, HQ.out, HC.out]; rfl
          dsimp only
          have F := HF.out.res w4 q4
          have FH := Lib.hid F
          obtain ⟨a0, a1, a2, a3, af⟩ := F
          have af0 := af 0
          have af1 := af 1
          have af2 := af 2
          have af3 := af 3
          clear af
          go_wp2
          refine bodyPost_ret (v := .tuple #[.agg #[.string ⟨#[]⟩, .int .i64 0, .slice none 0 0, .slice none 0 0], .int .i64 271]) ?_ rfl (res_zero w _ 271 (below_four d4 (by omega) _ _ _ _))
          rw [results_cell_tmp rfl]
          exact load_tab2 _ _ _ _ (four_zero FH.out) rfl rfl
        | false =>
          obtain ⟨h, hw, hri, hB', hrw⟩ := HH.out
          have hPl : P ≤ t.rows.length := by
            have := before_le (idsL t.rows) r.id
            rw [HP.out, idsL_len] at this
            exact this
          have b24 : Below w2.heap.size w2 w4 := hb3.trans (hb4.mono hb3.size)
          have hf4 := HF2.out.below b24 (Nat.lt_of_lt_of_le hbkl hb2.size)
          have hn4 := HN2.out.below b24 (Nat.le_refl _)
          obtain ⟨x0, x1, x2, x3, xf⟩ := hf4
          obtain ⟨M, hM⟩ : ∃ M, ((t.rows.length : Int) == t.most) = M := ⟨_, rfl⟩
          have HM := Lib.hid hM
          have hf4 := HF2.out.below b24 (Nat.lt_of_lt_of_le hbkl hb2.size)
          cases M with
          | true =>
            have HN4 := Lib.hid hn4
            clear h hw hri hB' hrw hn4 hf4 hPl x0 x2 xf
            obtain rfl : X = (zeroT, 272) := by rw [← HX.out, HON.out, HQ.out, HC.out, HM.out]; rfl
            dsimp only
            have F := HF.out.res w4 q4
            have FH := Lib.hid F
            obtain ⟨a0, a1, a2, a3, af⟩ := F
            have af0 := af 0
            have af1 := af 1
            have af2 := af 2
            have af3 := af 3
            clear af
            go_wp2
            go_region
            go_wp2
            refine bodyPost_ret (v := .tuple #[.agg #[.string ⟨#[]⟩, .int .i64 0, .slice none 0 0, .slice none 0 0], .int .i64 272]) ?_ rfl (res_zero w _ 272 (below_four (d4.drew) (by omega) _ _ _ _))
            rw [results_cell_tmp rfl]
            exact load_tab2 _ _ _ _ (four_zero (W := w4.drew) ⟨FH.out.c0, FH.out.c1, FH.out.c2, FH.out.c3, FH.out.f⟩) rfl rfl
          | false =>
            obtain rfl : X = ({ t with rows := t.rows.take P ++ r :: t.rows.drop P }, 0) := by rw [← HX.out, HON.out, HQ.out, HC.out, HM.out, HP.out]; rfl
            dsimp only
            have hrl := hw.rl
            have hT4 := HT.out w4 d4
            obtain ⟨hu4, ⟨vs, hg4, hvl, hkp⟩, hge, hcap⟩ := hn4
            have hbk4 : bk < w4.heap.size := Nat.lt_of_lt_of_le hbkl (Nat.le_trans hb2.size b24.size)
            obtain ⟨csb, hcsb⟩ := HTY.out
            have hcs4 : w4.heap[bk]? = some (.cells csb 53 (0, 0)) := ((hb2.trans (b24.mono hb2.size)).block bk hbkl).trans hcsb
            have hne2 : g ≠ bk := by
              rintro rfl
              rw [hg4] at hcs4
              simp at hcs4
            have hg4l := (Array.getElem?_eq_some_iff.1 hg4).1
            have hgw : w.heap.size + 1 + 1 + 1 ≤ g := Nat.le_trans HZ.out hge
            have hbw : w.heap.size + 1 + 1 + 1 ≤ bk := Nat.le_trans HZ.out hbk
            have htw := fun W (q : Below w4.heap.size w4 W) => (twin_rec r A c W (hri.rd.thru (d4.trans (q.mono d4.size)) hB') (Nat.le_trans hB' (Nat.le_trans d4.size q.size)) hrw.len).mono
              (R' := fun e w' => ∃ A5 c5, e = .returned (.agg #[.string r.id, .slice A5 r.data.length c5]) ∧ w'.ownsRow w4.heap.size 47 5 (.slice A5 r.data.length c5) r.data.length (cv r.data) ∧ Below w4.heap.size w4 w') fun e w' h => by
                obtain ⟨A5, c5, e1, o1, b1⟩ := h
                exact ⟨A5, c5, e1, own_base o1 q.size, q.trans (b1.mono q.size)⟩
            have hin : ∀ (W5 W : World) (vb : Nat) (A5 : Option Addr) (c5 : Nat), Below w4.heap.size w4 W5 → W5.ownsRow w4.heap.size 47 5 (.slice A5 r.data.length c5) r.data.length (cv r.data) → Below W5.heap.size W5 W → w4.heap.size ≤ vb → W.cell? ⟨vb, 0, none⟩ = some (.string r.id) → W.cell? ⟨vb, 1, none⟩ = some (.slice A5 r.data.length c5) →
                Calls Tryz.prog 31 #[.slice (some ⟨g, 0, none⟩) t.rows.length t.rows.length, .int .i64 P, .slice (some ⟨vb, 0, none⟩) 1 1] W fun e w' => ∃ g6 c6, e = .returned (.slice (some ⟨g6, 0, none⟩) (t.rows.length + 1) c6) ∧ w'.ownsRow (W1z w t r Au cu Ar cr A c) 28 2 (.slice (some ⟨g6, 0, none⟩) (t.rows.length + 1) c6) (t.rows.length + 1) (insV vs P (.string r.id) (.slice A5 r.data.length c5)) ∧ w'.ownsRow w4.heap.size 47 5 (.slice A5 r.data.length c5) r.data.length (cv r.data) ∧ w4.grownBy w' (some g) := fun W5 W vb A5 c5 q5 o5 qW hvb y0 y1 => by
              have qq := q5.trans (qW.mono q5.size)
              have hgW := (qq.block g hg4l).trans hg4
              have hrow : W.ownsRow (W1z w t r Au cu Ar cr A c) 28 2 (.slice (some ⟨g, 0, none⟩) t.rows.length t.rows.length) t.rows.length vs := by
                have := own_of_cells hge hgW hvl (Nat.le_refl t.rows.length) (by unfold maxLen; omega)
                rwa [List.take_of_length_le (by omega)] at this
              refine (insert_rec g t.rows.length P vb _ _ _ vs W hrow hPl (by omega) (by omega) y0 y1 ⟨rfl, rfl⟩ (hkp.one hvl)).mono fun e w' h => ?_
              obtain ⟨A6, c6, rfl, o6, r6⟩ := h
              have oo : W.ownsRow w4.heap.size 47 5 (.slice A5 r.data.length c5) r.data.length (cv r.data) := own_below o5 qW (fun k hk => (o5.lt k hk).2)
              have kk := oo.kept r6 (own_ne_cells oo hgW (by decide))
              rcases o6.2 with ⟨_, h0⟩ | ⟨g6, cap, cur, h3, _⟩
              · omega
              · simp only [Value.slice.injEq] at h3
                obtain ⟨rfl, _, _⟩ := h3
                exact ⟨g6, c6, rfl, o6, kk, grown_trans (of_below (bE := some g) qq) r6⟩
            have HK : ∀ W, Below w4.heap.size w4 W → W.cell? ⟨w.heap.size + 1, 0, none⟩ = some (.string r.id) ∧ W.cell? ⟨w.heap.size + 1, 1, none⟩ = some (.slice A r.data.length c) := fun W q => HF.out.rc W (q4.trans (q.mono q4.size))
            have HG : ∀ W, w4.grownBy W (some g) → (W.cell? ⟨w.heap.size + 1, 0, none⟩ = some (.string r.id) ∧ W.cell? ⟨w.heap.size + 1, 1, none⟩ = some (.slice A r.data.length c)) ∧ W.cell? ⟨bk, 3, none⟩ = some (.slice (some ⟨g, 0, none⟩) t.rows.length t.rows.length) ∧ W.frozen? ⟨bk, 3, none⟩ = false := fun W q => by
              have hh := HF.out.rc w4 q4
              have f6 := hf4.grown q (by simpa using fun e => hne2 e.symm)
              exact ⟨⟨q.cell hh.1 (by simp; omega), q.cell hh.2 (by simp; omega)⟩, f6.c3, f6.f 3⟩
            have HS : ∀ (W : World) (a : Value), (W.cell? ⟨w.heap.size + 1, 0, none⟩ = some (.string r.id) ∧ W.cell? ⟨w.heap.size + 1, 1, none⟩ = some (.slice A r.data.length c)) →
                ((W.setCell ⟨bk, 3, none⟩ a).cell? ⟨w.heap.size + 1, 0, none⟩ = some (.string r.id) ∧ (W.setCell ⟨bk, 3, none⟩ a).cell? ⟨w.heap.size + 1, 1, none⟩ = some (.slice A r.data.length c)) := fun W a hh => by
              have gg := grown_set W bk 3 a
              exact ⟨gg.cell hh.1 (by simp; omega), gg.cell hh.2 (by simp; omega)⟩
            have KK := Lib.hid HK
            have KG := Lib.hid HG
            have KS := Lib.hid HS
            have KI := Lib.hid hin
            have KTW := Lib.hid htw
            have H4 := Lib.hid (And.intro hf4 (And.intro hu4 (And.intro hg4 (And.intro hvl (And.intro hkp (And.intro hcs4 (And.intro hge hPl)))))))
            have y3 : ∀ W, Below w4.heap.size w4 W → W.cell? ⟨bk, 3, none⟩ = some (.slice (some ⟨g, 0, none⟩) t.rows.length t.rows.length) := fun W q => (hf4.below q hbk4).c3
            have KY := Lib.hid y3
            clear h hw hri hB' hrw hf4 hu4 hg4 hvl hkp hcs4 hcsb htw HK HG HS hin hcap hPl x0 x2 xf y3 hT4
            go_wp2
            go_region
            go_wp2
            obtain ⟨kr0, kr1⟩ := KK.out w4 (Below.refl _ _)
            go_region_with (first
                | (go_at_call 25; (with_reducible refine (KTW.out _ ?_).mono ?_); (repeat (first | assumption | exact Below.refl _ _ | refine Below.drew ?_)); rintro e w5 ⟨A5, c5, rfl, ho5, hb5⟩; have z3 := KY.out w5 hb5; have z4 := fun o => KY.out (w5.alloc o) (hb5.alloc hb5.size o))
                | (go_at_call 31; (with_reducible refine (KI.out w5 _ _ A5 c5 hb5 ho5 ?_ ?_ ?_ ?_).mono ?_); exact (Below.refl _ _).alloc (Nat.le_refl _) _; exact hb5.size; exact box_keep (Below.refl _ _) 0 (by simp); exact box_keep (Below.refl _ _) 1 (by simp); rintro e w6 ⟨g6, c6, rfl, ho6, hk6, hg6⟩; obtain ⟨hh6, z6, zf6⟩ := KG.out w6 hg6))
            all_goals
              obtain ⟨hf4, hu4, hg4, hvl, hkp, hcs4, hge, hPl⟩ := H4.out
              have hf6 := hf4.grown hg6 (by simpa using fun e => hne2 e.symm)
              have hcs6 := (hg6.block bk hbk4 (by simpa using fun e => hne2 e.symm)).trans hcs4
              have gS := grown_set w6 bk 3 (.slice (some ⟨g6, 0, none⟩) (t.rows.length + 1) c6)
              have oS := ho6.kept gS (own_ne_cells ho6 hcs6 (by decide))
              have u6 := hu4.kept hg6 (own_ne_cells hu4 hg4 (by decide))
              have uS := u6.kept gS (own_ne_cells u6 hcs6 (by decide))
              have kS := (hkp.grown hg4 hg6).grownT hcs6 (by decide) gS
              have dS := (own_base hk6 q4.size).kept gS (own_ne_cells hk6 hcs6 (by decide))
              have fS := hf6.set3 (.slice (some ⟨g6, 0, none⟩) (t.rows.length + 1) c6)
              have rS := ((HF.out.res w4 q4).grown hg6 (by simp; omega)).setOther (b' := bk) (i := 3) (by omega) (.slice (some ⟨g6, 0, none⟩) (t.rows.length + 1) c6)
              have hDS : Below w.heap.size w (w6.setCell ⟨bk, 3, none⟩ (.slice (some ⟨g6, 0, none⟩) (t.rows.length + 1) c6)) := (d4.grown hg6 d4.size (fun k hk => by cases hk; omega)).setCell (by show w.heap.size ≤ bk; omega) _
              obtain ⟨wS, hwS⟩ : ∃ W, W = w6.setCell ⟨bk, 3, none⟩ (.slice (some ⟨g6, 0, none⟩) (t.rows.length + 1) c6) := ⟨_, rfl⟩
              rw [← hwS] at oS uS kS dS fS rS hDS ⊢
              have HN := Lib.hid (And.intro oS (And.intro uS (And.intro kS (And.intro dS (And.intro rS hDS)))))
              obtain ⟨c30, c31, c32, c33, c3f⟩ := fS
              obtain ⟨a0, a1, a2, a3, af⟩ := rS
              have af0 := af 0
              have af1 := af 1
              have af2 := af 2
              have af3 := af 3
              have H6 := Lib.hid (And.intro hvl hPl)
              clear af c3f hf4 hu4 hg4 hvl hkp hcs4 hge hPl hf6 hcs6 gS oS u6 uS kS dS hDS ho5 ho6 hk6 hg6 z3 z4 z6 zf6 hh6 hwS
              go_wp2
              obtain ⟨oS, uS, kS, dS, rS, hDS⟩ := HN.out
              obtain ⟨hvl, hPl⟩ := H6.out
              obtain ⟨L, hL1, hL2, hL3, hge6, hnc6, _⟩ := own_cells oS
              have kI := kS.ins hvl hPl dS hL3
              have hlen : (t.rows.take P ++ r :: t.rows.drop P).length = t.rows.length + 1 := by rw [List.length_append, List.length_take, List.length_cons, List.length_drop]; omega
              have nS : NewTab wS (W1z w t r Au cu Ar cr A c) { t with rows := t.rows.take P ++ r :: t.rows.drop P } Au1 cu1 g6 c6 := ⟨uS, ⟨L, hL1, hL2, kI⟩, hge6, by show (t.rows.take P ++ r :: t.rows.drop P).length ≤ c6; omega⟩
              have gF := grown_four wS (w.heap.size + 1 + 1) (.string t.name) (.int .i64 t.most) (.slice Au1 t.us.length cu1) (.slice (some ⟨g6, 0, none⟩) (t.rows.length + 1) c6)
              have nF := nS.grown gF (by have := HZ.out; exact this)
              have rF := (((rS.set0 (.string t.name)).set1 (.int .i64 t.most)).set2 (.slice Au1 t.us.length cu1)).set3 (.slice (some ⟨g6, 0, none⟩) (t.rows.length + 1) c6)
              refine bodyPost_ret (v := .tuple #[.agg #[.string t.name, .int .i64 t.most, .slice Au1 t.us.length cu1, .slice (some ⟨g6, 0, none⟩) (t.rows.length + 1) c6], .int .i64 0]) ?_ rfl ⟨Au1, cu1, some ⟨g6, 0, none⟩, c6, ?_, .inr ⟨g6, rfl, ?_⟩, ?_⟩
              · rw [results_cell_tmp rfl]
                exact load_tab2 _ _ _ _ rF rfl rfl
              · show _ = Ending.returned (.tuple #[.agg #[.string t.name, .int .i64 t.most, .slice Au1 t.us.length cu1, .slice (some ⟨g6, 0, none⟩) (t.rows.take P ++ r :: t.rows.drop P).length c6], .int .i64 0])
                rw [hlen]
              · obtain ⟨q1, ⟨L', q2, q3, q4'⟩, q5, q6⟩ := nF
                exact ⟨own_base q1 HF.out.b.size, ⟨L', q2, q3, q4'.base HF.out.b.size⟩, Nat.le_trans HF.out.b.size q5, q6⟩
              · exact below_four hDS (by omega) _ _ _ _
end Go.Proofs.YtcgioepbooafcaaGreatDoor
