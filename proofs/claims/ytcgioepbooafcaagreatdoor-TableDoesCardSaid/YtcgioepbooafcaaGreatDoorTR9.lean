/- The reference's Twin of a table. Conditions: lengths within the model's. -/
import Derived.Test.YtcgioepbooafcaaGreatDoorTR8
import Derived.Deep.CutBlock
namespace Go.Proofs.YtcgioepbooafcaaGreatDoor
open Go.RowKit
/-- a table's box and a zero one -/
structure F2z (w W1 : World) (t : TabC) (Au : Option Addr) (cu : Nat) (Ar : Option Addr) (cr : Nat) : Prop where
  b : Below w.heap.size w W1
  z : W1.heap.size = w.heap.size + 1 + 1
  t : ∀ W, Below W1.heap.size W1 W → Four W w.heap.size (.string t.name) (.int .i64 t.most) (.slice Au t.us.length cu) (.slice Ar t.rows.length cr)
  r : ∀ W, Below W1.heap.size W1 W → Four W (w.heap.size + 1) (.string ⟨#[]⟩) (.int .i64 0) (.slice none 0 0) (.slice none 0 0)
theorem f2z_mk (w : World) (t : TabC) (Au : Option Addr) (cu : Nat) (Ar : Option Addr) (cr : Nat) {W1 : World} (hW : W1 = (w.alloc (.cells #[.string t.name, .int .i64 t.most, .slice Au t.us.length cu, .slice Ar t.rows.length cr] 25)).alloc (.cells #[.string ⟨#[]⟩, .int .i64 0, .slice none 0 0, .slice none 0 0] 25)) : F2z w W1 t Au cu Ar cr := by
  subst hW
  have hz : ((w.alloc (.cells #[.string t.name, .int .i64 t.most, .slice Au t.us.length cu, .slice Ar t.rows.length cr] 25)).alloc (.cells #[.string ⟨#[]⟩, .int .i64 0, .slice none 0 0, .slice none 0 0] 25)).heap.size = w.heap.size + 1 + 1 := by simp
  refine ⟨((Below.refl _ _).alloc (Nat.le_refl _) _).alloc (by simp) _, hz, fun W q => ?_, fun W q => ?_⟩
  · have f := (Four.new w (.string t.name) (.int .i64 t.most) (.slice Au t.us.length cu) (.slice Ar t.rows.length cr) 25).below ((Below.refl _ _).alloc (Nat.le_refl _) (.cells #[.string ⟨#[]⟩, .int .i64 0, .slice none 0 0, .slice none 0 0] 25)) (by simp)
    exact f.below q (by omega)
  · have g := Four.new (w.alloc (.cells #[.string t.name, .int .i64 t.most, .slice Au t.us.length cu, .slice Ar t.rows.length cr] 25)) (.string ⟨#[]⟩) (.int .i64 0) (.slice none 0 0) (.slice none 0 0) 25
    have e : (w.alloc (.cells #[.string t.name, .int .i64 t.most, .slice Au t.us.length cu, .slice Ar t.rows.length cr] 25)).heap.size = w.heap.size + 1 := by simp
    rw [e] at g
    exact g.below q (by omega)
/-- a table in new memory, for reading -/
def RTwin (t : TabC) (w : World) (e : Ending) (w' : World) : Prop := ∃ Au cu Ar cr, e = .returned (.agg #[.string t.name, .int .i64 t.most, .slice Au t.us.length cu, .slice Ar t.rows.length cr]) ∧ w'.ownsRow w.heap.size 9 1 (.slice Au t.us.length cu) t.us.length (sv t.us) ∧ OwnRows w' w.heap.size Ar cr t.rows ∧ Below w.heap.size w w'
def InCut (W0 : World) (b : Nat) (nm : ByteArray) (mo : Int) (us : List ByteArray) (Au : Option Addr) (nu cu : Nat) (rs : List RecC) (W : World) : Prop := ∃ A c vs, OutTab W0 b nm mo us Au nu cu rs A c vs W
def OutAt (W0 : World) (nm : ByteArray) (mo : Int) (us : List ByteArray) (nu : Nat) (v : Value) (W : World) : Prop := ∃ b Au cu, v = .pointer (some ⟨b, 0, none⟩) ∧ OutTab W0 b nm mo us Au nu cu [] none 0 [] W
theorem info_recb : (Tryz.prog.info? 28).map (fun i => (i.zero, i.size, i.bytes)) = some (some (.agg #[.string ⟨#[]⟩, .slice none 0 0]), 2, 40) := by kernel_rfl
set_option maxRecDepth 100000 in
set_option maxHeartbeats 16000000 in
theorem rtwinT_any (t : TabC) (Au : Option Addr) (cu : Nat) (Ar : Option Addr) (cr : Nat) (w : World) {B : Nat} (h : RTab w B t Au Ar) :
    Calls Tryz.prog 6 #[.agg #[.string t.name, .int .i64 t.most, .slice Au t.us.length cu, .slice Ar t.rows.length cr]] w fun e w' => RTwin t w e w' := by
  obtain ⟨i0, hi, hz0, hz1, hz2⟩ := info_parts info_recb
  obtain ⟨i2, hi2, hs0, hs1, hs2⟩ := info_parts info_str1
  obtain ⟨W1, hW1⟩ : ∃ W1, W1 = (w.alloc (.cells #[.string t.name, .int .i64 t.most, .slice Au t.us.length cu, .slice Ar t.rows.length cr] 25)).alloc (.cells #[.string ⟨#[]⟩, .int .i64 0, .slice none 0 0, .slice none 0 0] 25) := ⟨_, rfl⟩
  have F := f2z_mk w t Au cu Ar cr hW1
  have HF := Lib.hid F
  have dW : ∀ W, Below W1.heap.size W1 W → Below w.heap.size w W := fun W q => F.b.trans (q.mono F.b.size)
  have hxu := h.us.thru F.b h.le
  have hBu := Nat.le_trans h.le F.b.size
  have hul := h.ul
  have hrl := h.rl
  obtain ⟨m, hm⟩ : ∃ m, t.us.length = m := ⟨_, rfl⟩
  obtain ⟨n, hn⟩ : ∃ n, t.rows.length = n := ⟨_, rfl⟩
  have hsl : (sv t.us).length = m := by rw [sv_len, hm]
  have HH := Lib.hid (And.intro h (And.intro hm hn))
  have DW := Lib.hid dW
  have HXU := Lib.hid hxu
  have kt : ∀ W, Below W1.heap.size W1 W → Four W w.heap.size (.string t.name) (.int .i64 t.most) (.slice Au m cu) (.slice Ar n cr) := fun W q => by have := F.t W q; rw [hm, hn] at this; exact this
  have KT := Lib.hid kt
  unfold RTwin
  rw [hm] at hul hW1 ⊢
  rw [hn] at hrl hW1 ⊢
  have HW1 := Lib.hid hW1
  obtain ⟨f0, f1, f2, f3, _⟩ := kt W1 (Below.refl _ _)
  have hsz := F.b.size
  clear h F dW hxu hm hn hW1 kt
  go_enter Tryz.func6, Tryz.ntmps6
  go_upto_region 1 with fail
  rw [← HW1.out]
  go_cut [3] (OutAt W1 t.name t.most t.us m)
  case first =>
    go_region_held3 (fun W => W.cell? ⟨w.heap.size, 0, none⟩ = some (.string t.name) ∧ W.cell? ⟨w.heap.size, 1, none⟩ = some (.int .i64 t.most) ∧ W.cell? ⟨w.heap.size, 2, none⟩ = some (.slice Au m cu))
      (exact ⟨(KT.out _ (by repeat (first | assumption | exact Below.refl _ _ | refine Below.drew ?_ | refine Below.alloc ?_ (by first | assumption | exact Nat.le_refl _ | omega | (simp; done) | (simp; omega)) _ | refine Below.setCell ?_ (by first | assumption | exact Nat.le_refl _ | omega | (simp; done) | (simp; omega)) _))).c0, (KT.out _ (by repeat (first | assumption | exact Below.refl _ _ | refine Below.drew ?_ | refine Below.alloc ?_ (by first | assumption | exact Nat.le_refl _ | omega | (simp; done) | (simp; omega)) _ | refine Below.setCell ?_ (by first | assumption | exact Nat.le_refl _ | omega | (simp; done) | (simp; omega)) _))).c1, (KT.out _ (by repeat (first | assumption | exact Below.refl _ _ | refine Below.drew ?_ | refine Below.alloc ?_ (by first | assumption | exact Nat.le_refl _ | omega | (simp; done) | (simp; omega)) _ | refine Below.setCell ?_ (by first | assumption | exact Nat.le_refl _ | omega | (simp; done) | (simp; omega)) _))).c2⟩)
      (((refine step_append_rd (by rfl) _ _ _ (by rfl) W1.heap.size 9 i2 (.string ⟨#[]⟩) 16 Tryz.underlying22 hi2 hs0 hs1 hs2 (by rfl) (.slice none 0 0) 0 [] (by rfl) (World.ownsRow_nil _ _ _ _) (B := B) Au m cu (sv t.us) (by rfl) (Rd.thru HXU.out (by repeat (first | assumption | exact Below.refl _ _ | refine Below.drew ?_ | refine Below.alloc ?_ (by first | assumption | exact Nat.le_refl _ | omega | (simp; done) | (simp; omega)) _ | refine Below.setCell ?_ (by first | assumption | exact Nat.le_refl _ | omega | (simp; done) | (simp; omega)) _)) hBu) hsl sv_one' (by unfold maxLen; omega) (by omega) (by first | exact Nat.le_refl _ | (simp; done) | (simp; omega)) ?_; intro v2 w2 hown2 hgrow2 _; have hb2 : Below W1.heap.size W1 w2 := Below.grown (by repeat (first | assumption | exact Below.refl _ _ | refine Below.drew ?_ | refine Below.alloc ?_ (by first | assumption | exact Nat.le_refl _ | omega | (simp; done) | (simp; omega)) _ | refine Below.setCell ?_ (by first | assumption | exact Nat.le_refl _ | omega | (simp; done) | (simp; omega)) _)) hgrow2 (by first | exact Nat.le_refl _ | (simp; done) | (simp; omega)) (fun k hk => by cases hk); have hs2' := hb2.size; simp only [Nat.zero_add, List.nil_append] at hown2; obtain ⟨A2, c2, rfl, _, _⟩ := own_slice hown2; (try have y2 := four_grD hgrow2); (try have y2 := four_gr hgrow2); (try have y3 := blk_grD hgrow2); (try have y3 := blk_gr hgrow2); (try (obtain ⟨y20, y21, y22, y23, y2f⟩ := id y2; have yf0 := y2f 0; have yf1 := y2f 1; have yf2 := y2f 2; have yf3 := y2f 3; clear y2f)))))
    all_goals go_wp2_with fail
    all_goals go_meet
    · exact ⟨_, _, _, rfl, OutTab.start (hb2.alloc hb2.size _) hb2.size (by simp) (hown2.alloc _) (une_lt hown2 (Nat.le_refl _)) (Four.new _ _ _ _ _ _)⟩
    · exact ⟨_, _, _, rfl, OutTab.start (((((hb2.setCell (by exact Nat.le_refl _) _).setCell (by exact Nat.le_refl _) _).setCell (by exact Nat.le_refl _) _).setCell (by exact Nat.le_refl _) _)) (Nat.le_refl _) (by have := World.block_lt_of_cell? _ _ y20; simpa using this)
        (own_not (own_not (own_not (own_not hown2 (une_cells hown2 y3 (by decide)) _ _) (une_cells hown2 y3 (by decide)) _ _) (une_cells hown2 y3 (by decide)) _ _) (une_cells hown2 y3 (by decide)) _ _) (une_cells hown2 y3 (by decide)) (((y2.set0 _).set1 _).set2 _ |>.set3 _)⟩
  case rest =>
  obtain ⟨b3, A3, c3, rfl, O⟩ := hcut
  go_upto_region 3 with fail
  have HO := Lib.hid O
  clear O f0 f1 f2 f3
  go_loopw [4] (fun i wr => ∃ k : Nat, k ≤ n ∧ i = .int .i64 k ∧ InCut W1 b3 t.name t.most t.us A3 m c3 (t.rows.take k) wr) (fun i _ => n - (intOf i).toNat)
  case atStart => exact ⟨0, Nat.zero_le _, rfl, none, 0, [], HO.out⟩
  case round =>
    obtain ⟨k, hk, rfl, A, c, vs, O⟩ := hrel
    obtain ⟨rs, hrs⟩ : ∃ rs, rs = t.rows.take k := ⟨_, rfl⟩
    rw [← hrs] at O
    obtain ⟨h, hm, hn⟩ := HH.out
    have hlen : k = rs.length := by rw [hrs, List.length_take]; omega
    subst hlen
    have HRS := Lib.hid hrs
    have hbr := O.below
    obtain ⟨_, _, _, f3, _⟩ := KT.out wr hbr
    have OO := Lib.hid O
    obtain ⟨g0, g1, g2, g3, gf⟩ := O.four
    have hbl := O.lt
    by_cases hlt : rs.length < n
    · have hkr : rs.length < t.rows.length := by omega
      have hkI : (rs.length : Int) < n := by omega
      obtain ⟨b, off, rfl, hrw⟩ := h.rowsAt (by omega)
      obtain ⟨A2, c2, r0, r1, rr⟩ := hrw wr (DW.out wr hbr) rs.length hkr
      have ct := fun W (q : Below wr.heap.size wr W) => (rtwin_any t.rows[rs.length] A2 c2 W (rr.below q).inn.rd (rr.below q).inn.le rr.inn.len).mono (R' := fun e w' => ∃ A5 c5, e = .returned (.agg #[.string t.rows[rs.length].id, .slice A5 t.rows[rs.length].data.length c5]) ∧ w'.ownsRow (b3 + 1) 47 5 (.slice A5 t.rows[rs.length].data.length c5) t.rows[rs.length].data.length (cv t.rows[rs.length].data) ∧ Below W.heap.size W w') fun e w' hh => by
        obtain ⟨A5, c5, e1, o1, b1⟩ := hh
        exact ⟨A5, c5, e1, own_base o1 (by have := q.size; omega), b1⟩
      have hnext : t.rows.take (rs.length + 1) = rs ++ [t.rows[rs.length]] := by rw [List.take_succ_eq_append_getElem hkr, ← hrs]
      obtain ⟨x, hx⟩ : ∃ x, t.rows[rs.length] = x := ⟨_, rfl⟩
      rw [hx] at r0 r1 hnext
      simp only [hx] at ct
      have hbb := World.block_lt_of_cell? _ ⟨b, off + rs.length * 2, none⟩ (hrw w (Below.refl _ _) rs.length hkr).choose_spec.choose_spec.1
      have r0w := ((DW.out wr hbr).cell (p := ⟨b, off + rs.length * 2, none⟩) hbb).symm.trans r0
      have r1w := ((DW.out wr hbr).cell (p := ⟨b, off + rs.length * 2 + 1, none⟩) hbb).symm.trans r1
      have kF : ∀ W, Below W1.heap.size W1 W → W.cell? ⟨w.heap.size, 3, none⟩ = some (.slice (some ⟨b, off, none⟩) n cr) ∧ W.cell? ⟨b, off + rs.length * 2, none⟩ = some (.string x.id) ∧ W.cell? ⟨b, off + rs.length * 2 + 1, none⟩ = some (.slice A2 x.data.length c2) := fun W q =>
        ⟨(KT.out W q).c3, ((DW.out W q).cell (p := ⟨b, off + rs.length * 2, none⟩) hbb).trans r0w, ((DW.out W q).cell (p := ⟨b, off + rs.length * 2 + 1, none⟩) hbb).trans r1w⟩
      have hle3 := O.le
      have KF := Lib.hid kF
      have CT := Lib.hid ct
      have HNX := Lib.hid hnext
      obtain ⟨xl, hxl⟩ : ∃ xl, x.data.length = xl := ⟨_, rfl⟩
      clear h hm hn hrs hrw rr hx hnext ct kF O g0 g1 g2 gf hxl r0w r1w hbb
      go_upto_block 1 with fail
      go_cut [] (InCut W1 b3 t.name t.most t.us A3 m c3 (t.rows.take (rs.length + 1)))
      case first =>
        go_upto_region 5 with fail
        refine wp_region_held_drew (S := fun W => W.cell? ⟨w.heap.size, 3, none⟩ = some (.slice (some ⟨b, off, none⟩) n cr) ∧ W.cell? ⟨b, off + rs.length * 2, none⟩ = some (.string x.id) ∧ W.cell? ⟨b, off + rs.length * 2 + 1, none⟩ = some (.slice A2 x.data.length c2)) (by kernel_rfl) (by exact KF.out _ (by repeat (first | assumption | exact Below.refl _ _ | refine Below.drew ?_ | refine Below.alloc ?_ (by first | assumption | exact Nat.le_refl _ | omega | (simp; done) | (simp; omega)) _ | refine Below.setCell ?_ (by first | assumption | exact Nat.le_refl _ | omega | (simp; done) | (simp; omega)) _))) (fun hHeld => ?_)
        refine wpAnyH_take (i := 0) (oi := _) (v := .pointer (some ⟨b3, 3, none⟩)) rfl (by kernel_rfl) (by kernel_rfl) (by kernel_rfl) (fun _ _ _ h => h) (Or.inl ⟨by rfl, fun W _ => rfl⟩) hHeld ?_
        try simp only [Act.put, List.getElem_toArray, List.getElem_cons_zero, List.setIfInBounds_toArray, List.set_cons_zero, List.set_cons_succ]
        refine wpAnyH_take (i := 2) (oi := _) (v := .pointer (some ⟨w.heap.size, 3, none⟩)) rfl (by kernel_rfl) (by kernel_rfl) (by kernel_rfl) (fun _ _ _ h => h) (Or.inl ⟨by rfl, fun W _ => rfl⟩) hHeld ?_
        try simp only [Act.put, List.getElem_toArray, List.getElem_cons_zero, List.getElem_cons_succ, List.setIfInBounds_toArray, List.set_cons_zero, List.set_cons_succ]
        refine wpAnyH_take (i := 3) (oi := _) (v := .slice (some ⟨b, off, none⟩) n cr) rfl (by kernel_rfl) (by kernel_rfl) (by kernel_rfl) (fun _ _ _ h => h) (Or.inl ⟨by rfl, by intro W hW; obtain ⟨q1, q2, q3⟩ := hW; go_simp⟩) hHeld ?_
        try simp only [Act.put, List.getElem_toArray, List.getElem_cons_zero, List.getElem_cons_succ, List.setIfInBounds_toArray, List.set_cons_zero, List.set_cons_succ]
        refine wpAnyH_take (i := 4) (oi := _) (v := .int .i64 rs.length) rfl (by kernel_rfl) (by kernel_rfl) (by kernel_rfl) (fun _ _ _ h => h) (Or.inl ⟨by rfl, fun W _ => rfl⟩) hHeld ?_
        try simp only [Act.put, List.getElem_toArray, List.getElem_cons_zero, List.getElem_cons_succ, List.setIfInBounds_toArray, List.set_cons_zero, List.set_cons_succ]
        refine wpAnyH_take (i := 5) (oi := _) (v := .pointer (some ⟨b, off + rs.length * 2, none⟩)) rfl (by kernel_rfl) (by kernel_rfl) (by kernel_rfl) (fun _ _ _ h => h) (Or.inl ⟨by rfl, by intro W hW; clear hW; go_simp⟩) hHeld ?_
        try simp only [Act.put, List.getElem_toArray, List.getElem_cons_zero, List.getElem_cons_succ, List.setIfInBounds_toArray, List.set_cons_zero, List.set_cons_succ]
        refine wpAnyH_take (i := 6) (oi := _) (v := .agg #[.string x.id, .slice A2 x.data.length c2]) rfl (by kernel_rfl) (by kernel_rfl) (by kernel_rfl) (fun _ _ _ h => h) (Or.inl ⟨by rfl, by intro W hW; obtain ⟨q1, q2, q3⟩ := hW; go_simp⟩) hHeld ?_
        try simp only [Act.put, List.getElem_toArray, List.getElem_cons_zero, List.getElem_cons_succ, List.setIfInBounds_toArray, List.set_cons_zero, List.set_cons_succ]
        refine wpAnyH_ready (rs := [1, 7]) (by kernel_rfl) (by simp) ?_
        refine AllReadyH.cons (o := _) rfl (fun K hK => ?_) (AllReadyH.cons (o := _) rfl (fun K hK => ?_) AllReadyH.nil)
        · skip
          clear hHeld
          go_simp
          refine hK.out _ _ (by exact KF.out _ (by repeat (first | assumption | exact Below.refl _ _ | refine Below.drew ?_ | refine Below.alloc ?_ (by first | assumption | exact Nat.le_refl _ | omega | (simp; done) | (simp; omega)) _ | refine Below.setCell ?_ (by first | assumption | exact Nat.le_refl _ | omega | (simp; done) | (simp; omega)) _))) (fun hHeld => ?_)
          clear hK K
          try simp only [Act.put, List.getElem_toArray, List.getElem_cons_zero, List.getElem_cons_succ, List.setIfInBounds_toArray, List.set_cons_zero, List.set_cons_succ]
          refine wpAnyH_ready (rs := [7]) (by kernel_rfl) (by simp) ?_
          refine AllReadyH.cons (o := _) rfl (fun K hK => ?_) AllReadyH.nil
          clear hHeld
          go_simp
          refine (CT.out _ ?hq).mono ?_
          case hq => exact (by repeat (first | assumption | exact Below.refl _ _ | refine Below.drew ?_))
          rintro e w5 ⟨A5, c5, rfl, ho5, hb5⟩
          have hq5 : Below wr.heap.size wr w5 := Below.trans (by repeat (first | assumption | exact Below.refl _ _ | refine Below.drew ?_)) (hb5.mono (by simp))
          have hl5 := hq5.size
          have O5 := OO.out.step hq5
          have hb5 := O5.below
          have hb3l := O5.lt
          have q3 := O5.four.c3
          have HO5 := Lib.hid (And.intro O5 ho5)
          clear O5 ho5
          refine hK.out _ _ (by exact KF.out _ (by repeat (first | assumption | exact Below.refl _ _ | refine Below.drew ?_ | refine Below.alloc ?_ (by first | assumption | exact Nat.le_refl _ | omega | (simp; done) | (simp; omega)) _ | refine Below.setCell ?_ (by first | assumption | exact Nat.le_refl _ | omega | (simp; done) | (simp; omega)) _))) (fun hHeld => ?_)
          clear hK K
          try simp only [Act.put, List.getElem_toArray, List.getElem_cons_zero, List.getElem_cons_succ, List.setIfInBounds_toArray, List.set_cons_zero, List.set_cons_succ]
          refine wpAnyH_ready (rs := [8]) (by kernel_rfl) (by simp) ?_
          refine AllReadyH.cons (o := _) rfl (fun K hK => ?_) AllReadyH.nil
          clear hHeld
          go_simp
          refine hK.out _ _ (by exact KF.out _ (by repeat (first | assumption | exact Below.refl _ _ | refine Below.drew ?_ | refine Below.alloc ?_ (by first | assumption | exact Nat.le_refl _ | omega | (simp; done) | (simp; omega)) _ | refine Below.setCell ?_ (by first | assumption | exact Nat.le_refl _ | omega | (simp; done) | (simp; omega)) _))) (fun hHeld => ?_)
          clear hK K
          try simp only [Act.put, List.getElem_toArray, List.getElem_cons_zero, List.getElem_cons_succ, List.setIfInBounds_toArray, List.set_cons_zero, List.set_cons_succ]
          refine wpAnyH_ready (rs := [9]) (by kernel_rfl) (by simp) ?_
          refine AllReadyH.cons (o := _) rfl (fun K hK => ?_) AllReadyH.nil
          clear hHeld
          refine step_append_rdK (by rfl) _ _ _ (by rfl) (b3 + 1) 28 i0 (.agg #[.string ⟨#[]⟩, .slice none 0 0]) 2 40 Tryz.underlying23 hi hz0 hz1 hz2 (by rfl) (by decide) (.slice A rs.length c) rs.length vs (by rfl) (HO5.out.1.own.alloc _) (B := w5.heap.size + 1) (some ⟨w5.heap.size, 0, none⟩) 1 1 [.string x.id, .slice A5 x.data.length c5] (by rfl) (rd_new w5 _ _ _ rfl) (by rfl) (rec_one _ _ _ _) (by unfold maxLen; omega) (by omega) (by simp; omega) ?_
          intro v7 w7 ho7 hg7 _
          obtain ⟨A7, c7, rfl, _, _⟩ := own_slice ho7
          have O6 := HO5.out.1.step ((Below.refl w5.heap.size w5).alloc (Nat.le_refl _) (.cells #[.string x.id, .slice A5 x.data.length c5] 28))
          have ON := O6.add (HO5.out.2.alloc _) ho7 hg7
          have f7 := O6.four.grown hg7 (by intro e; have := (O6.own.lt b3 e.symm).1; omega)
          have hb7 : Below W1.heap.size W1 w7 := O6.below.grown hg7 O6.below.size (fun k hk => by have := (O6.own.lt k hk).1; have := O6.le; omega)
          obtain ⟨_, _, _, s3, sf⟩ := f7
          have s4 := sf 3
          have HON := Lib.hid ON
          clear O6 ON sf
          refine hK.out _ _ (by exact KF.out _ (by repeat (first | assumption | exact Below.refl _ _ | refine Below.drew ?_ | refine Below.alloc ?_ (by first | assumption | exact Nat.le_refl _ | omega | (simp; done) | (simp; omega)) _ | refine Below.setCell ?_ (by first | assumption | exact Nat.le_refl _ | omega | (simp; done) | (simp; omega)) _))) (fun hHeld => ?_)
          clear hK K
          try simp only [Act.put, List.getElem_toArray, List.getElem_cons_zero, List.getElem_cons_succ, List.setIfInBounds_toArray, List.set_cons_zero, List.set_cons_succ]
          refine wpAnyH_take (i := 10) (oi := _) (v := .pointer (some ⟨b3, 3, none⟩)) rfl (by kernel_rfl) (by kernel_rfl) (by kernel_rfl) (fun _ _ _ h => h) (Or.inl ⟨by rfl, fun W _ => rfl⟩) hHeld ?_
          try simp only [Act.put, List.getElem_toArray, List.getElem_cons_zero, List.getElem_cons_succ, List.setIfInBounds_toArray, List.set_cons_zero, List.set_cons_succ]
          refine wpAnyH_ready (rs := [11]) (by kernel_rfl) (by simp) ?_
          refine AllReadyH.cons (o := _) rfl (fun K hK => ?_) AllReadyH.nil
          clear hHeld
          go_simp
          refine hK.out _ _ (by exact KF.out _ (by repeat (first | assumption | exact Below.refl _ _ | refine Below.drew ?_ | refine Below.alloc ?_ (by first | assumption | exact Nat.le_refl _ | omega | (simp; done) | (simp; omega)) _ | refine Below.setCell ?_ (by first | assumption | exact Nat.le_refl _ | omega | (simp; done) | (simp; omega)) _))) (fun hHeld => ?_)
          clear hK K
          try simp only [Act.put, List.getElem_toArray, List.getElem_cons_zero, List.getElem_cons_succ, List.setIfInBounds_toArray, List.set_cons_zero, List.set_cons_succ]
          refine wpAnyH_done (by kernel_rfl) ?_ _
          go_wp2_with fail
          go_meet
          exact ⟨A7, c7, _, by rw [HNX.out]; exact HON.out⟩
        · skip
          clear hHeld
          go_simp
          refine (CT.out _ ?hq).mono ?_
          case hq => exact (by repeat (first | assumption | exact Below.refl _ _ | refine Below.drew ?_))
          rintro e w5 ⟨A5, c5, rfl, ho5, hb5⟩
          have hq5 : Below wr.heap.size wr w5 := Below.trans (by repeat (first | assumption | exact Below.refl _ _ | refine Below.drew ?_)) (hb5.mono (by simp))
          have hl5 := hq5.size
          have O5 := OO.out.step hq5
          have hb5 := O5.below
          have hb3l := O5.lt
          have q3 := O5.four.c3
          have HO5 := Lib.hid (And.intro O5 ho5)
          clear O5 ho5
          refine hK.out _ _ (by exact KF.out _ (by repeat (first | assumption | exact Below.refl _ _ | refine Below.drew ?_ | refine Below.alloc ?_ (by first | assumption | exact Nat.le_refl _ | omega | (simp; done) | (simp; omega)) _ | refine Below.setCell ?_ (by first | assumption | exact Nat.le_refl _ | omega | (simp; done) | (simp; omega)) _))) (fun hHeld => ?_)
          clear hK K
          try simp only [Act.put, List.getElem_toArray, List.getElem_cons_zero, List.getElem_cons_succ, List.setIfInBounds_toArray, List.set_cons_zero, List.set_cons_succ]
          refine wpAnyH_ready (rs := [1, 8]) (by kernel_rfl) (by simp) ?_
          refine AllReadyH.cons (o := _) rfl (fun K hK => ?_) (AllReadyH.cons (o := _) rfl (fun K hK => ?_) AllReadyH.nil)
          · skip
            clear hHeld
            go_simp
            refine hK.out _ _ (by exact KF.out _ (by repeat (first | assumption | exact Below.refl _ _ | refine Below.drew ?_ | refine Below.alloc ?_ (by first | assumption | exact Nat.le_refl _ | omega | (simp; done) | (simp; omega)) _ | refine Below.setCell ?_ (by first | assumption | exact Nat.le_refl _ | omega | (simp; done) | (simp; omega)) _))) (fun hHeld => ?_)
            clear hK K
            try simp only [Act.put, List.getElem_toArray, List.getElem_cons_zero, List.getElem_cons_succ, List.setIfInBounds_toArray, List.set_cons_zero, List.set_cons_succ]
            refine wpAnyH_ready (rs := [8]) (by kernel_rfl) (by simp) ?_
            refine AllReadyH.cons (o := _) rfl (fun K hK => ?_) AllReadyH.nil
            clear hHeld
            go_simp
            refine hK.out _ _ (by exact KF.out _ (by repeat (first | assumption | exact Below.refl _ _ | refine Below.drew ?_ | refine Below.alloc ?_ (by first | assumption | exact Nat.le_refl _ | omega | (simp; done) | (simp; omega)) _ | refine Below.setCell ?_ (by first | assumption | exact Nat.le_refl _ | omega | (simp; done) | (simp; omega)) _))) (fun hHeld => ?_)
            clear hK K
            try simp only [Act.put, List.getElem_toArray, List.getElem_cons_zero, List.getElem_cons_succ, List.setIfInBounds_toArray, List.set_cons_zero, List.set_cons_succ]
            refine wpAnyH_ready (rs := [9]) (by kernel_rfl) (by simp) ?_
            refine AllReadyH.cons (o := _) rfl (fun K hK => ?_) AllReadyH.nil
            clear hHeld
            refine step_append_rdK (by rfl) _ _ _ (by rfl) (b3 + 1) 28 i0 (.agg #[.string ⟨#[]⟩, .slice none 0 0]) 2 40 Tryz.underlying23 hi hz0 hz1 hz2 (by rfl) (by decide) (.slice A rs.length c) rs.length vs (by rfl) (HO5.out.1.own.alloc _) (B := w5.heap.size + 1) (some ⟨w5.heap.size, 0, none⟩) 1 1 [.string x.id, .slice A5 x.data.length c5] (by rfl) (rd_new w5 _ _ _ rfl) (by rfl) (rec_one _ _ _ _) (by unfold maxLen; omega) (by omega) (by simp; omega) ?_
            intro v7 w7 ho7 hg7 _
            obtain ⟨A7, c7, rfl, _, _⟩ := own_slice ho7
            have O6 := HO5.out.1.step ((Below.refl w5.heap.size w5).alloc (Nat.le_refl _) (.cells #[.string x.id, .slice A5 x.data.length c5] 28))
            have ON := O6.add (HO5.out.2.alloc _) ho7 hg7
            have f7 := O6.four.grown hg7 (by intro e; have := (O6.own.lt b3 e.symm).1; omega)
            have hb7 : Below W1.heap.size W1 w7 := O6.below.grown hg7 O6.below.size (fun k hk => by have := (O6.own.lt k hk).1; have := O6.le; omega)
            obtain ⟨_, _, _, s3, sf⟩ := f7
            have s4 := sf 3
            have HON := Lib.hid ON
            clear O6 ON sf
            refine hK.out _ _ (by exact KF.out _ (by repeat (first | assumption | exact Below.refl _ _ | refine Below.drew ?_ | refine Below.alloc ?_ (by first | assumption | exact Nat.le_refl _ | omega | (simp; done) | (simp; omega)) _ | refine Below.setCell ?_ (by first | assumption | exact Nat.le_refl _ | omega | (simp; done) | (simp; omega)) _))) (fun hHeld => ?_)
            clear hK K
            try simp only [Act.put, List.getElem_toArray, List.getElem_cons_zero, List.getElem_cons_succ, List.setIfInBounds_toArray, List.set_cons_zero, List.set_cons_succ]
            refine wpAnyH_take (i := 10) (oi := _) (v := .pointer (some ⟨b3, 3, none⟩)) rfl (by kernel_rfl) (by kernel_rfl) (by kernel_rfl) (fun _ _ _ h => h) (Or.inl ⟨by rfl, fun W _ => rfl⟩) hHeld ?_
            try simp only [Act.put, List.getElem_toArray, List.getElem_cons_zero, List.getElem_cons_succ, List.setIfInBounds_toArray, List.set_cons_zero, List.set_cons_succ]
            refine wpAnyH_ready (rs := [11]) (by kernel_rfl) (by simp) ?_
            refine AllReadyH.cons (o := _) rfl (fun K hK => ?_) AllReadyH.nil
            clear hHeld
            go_simp
            refine hK.out _ _ (by exact KF.out _ (by repeat (first | assumption | exact Below.refl _ _ | refine Below.drew ?_ | refine Below.alloc ?_ (by first | assumption | exact Nat.le_refl _ | omega | (simp; done) | (simp; omega)) _ | refine Below.setCell ?_ (by first | assumption | exact Nat.le_refl _ | omega | (simp; done) | (simp; omega)) _))) (fun hHeld => ?_)
            clear hK K
            try simp only [Act.put, List.getElem_toArray, List.getElem_cons_zero, List.getElem_cons_succ, List.setIfInBounds_toArray, List.set_cons_zero, List.set_cons_succ]
            refine wpAnyH_done (by kernel_rfl) ?_ _
            go_wp2_with fail
            go_meet
            exact ⟨A7, c7, _, by rw [HNX.out]; exact HON.out⟩
          · skip
            clear hHeld
            go_simp
            refine hK.out _ _ (by exact KF.out _ (by repeat (first | assumption | exact Below.refl _ _ | refine Below.drew ?_ | refine Below.alloc ?_ (by first | assumption | exact Nat.le_refl _ | omega | (simp; done) | (simp; omega)) _ | refine Below.setCell ?_ (by first | assumption | exact Nat.le_refl _ | omega | (simp; done) | (simp; omega)) _))) (fun hHeld => ?_)
            clear hK K
            try simp only [Act.put, List.getElem_toArray, List.getElem_cons_zero, List.getElem_cons_succ, List.setIfInBounds_toArray, List.set_cons_zero, List.set_cons_succ]
            refine wpAnyH_ready (rs := [1]) (by kernel_rfl) (by simp) ?_
            refine AllReadyH.cons (o := _) rfl (fun K hK => ?_) AllReadyH.nil
            clear hHeld
            go_simp
            refine hK.out _ _ (by exact KF.out _ (by repeat (first | assumption | exact Below.refl _ _ | refine Below.drew ?_ | refine Below.alloc ?_ (by first | assumption | exact Nat.le_refl _ | omega | (simp; done) | (simp; omega)) _ | refine Below.setCell ?_ (by first | assumption | exact Nat.le_refl _ | omega | (simp; done) | (simp; omega)) _))) (fun hHeld => ?_)
            clear hK K
            try simp only [Act.put, List.getElem_toArray, List.getElem_cons_zero, List.getElem_cons_succ, List.setIfInBounds_toArray, List.set_cons_zero, List.set_cons_succ]
            refine wpAnyH_ready (rs := [9]) (by kernel_rfl) (by simp) ?_
            refine AllReadyH.cons (o := _) rfl (fun K hK => ?_) AllReadyH.nil
            clear hHeld
            refine step_append_rdK (by rfl) _ _ _ (by rfl) (b3 + 1) 28 i0 (.agg #[.string ⟨#[]⟩, .slice none 0 0]) 2 40 Tryz.underlying23 hi hz0 hz1 hz2 (by rfl) (by decide) (.slice A rs.length c) rs.length vs (by rfl) (HO5.out.1.own.alloc _) (B := w5.heap.size + 1) (some ⟨w5.heap.size, 0, none⟩) 1 1 [.string x.id, .slice A5 x.data.length c5] (by rfl) (rd_new w5 _ _ _ rfl) (by rfl) (rec_one _ _ _ _) (by unfold maxLen; omega) (by omega) (by simp; omega) ?_
            intro v7 w7 ho7 hg7 _
            obtain ⟨A7, c7, rfl, _, _⟩ := own_slice ho7
            have O6 := HO5.out.1.step ((Below.refl w5.heap.size w5).alloc (Nat.le_refl _) (.cells #[.string x.id, .slice A5 x.data.length c5] 28))
            have ON := O6.add (HO5.out.2.alloc _) ho7 hg7
            have f7 := O6.four.grown hg7 (by intro e; have := (O6.own.lt b3 e.symm).1; omega)
            have hb7 : Below W1.heap.size W1 w7 := O6.below.grown hg7 O6.below.size (fun k hk => by have := (O6.own.lt k hk).1; have := O6.le; omega)
            obtain ⟨_, _, _, s3, sf⟩ := f7
            have s4 := sf 3
            have HON := Lib.hid ON
            clear O6 ON sf
            refine hK.out _ _ (by exact KF.out _ (by repeat (first | assumption | exact Below.refl _ _ | refine Below.drew ?_ | refine Below.alloc ?_ (by first | assumption | exact Nat.le_refl _ | omega | (simp; done) | (simp; omega)) _ | refine Below.setCell ?_ (by first | assumption | exact Nat.le_refl _ | omega | (simp; done) | (simp; omega)) _))) (fun hHeld => ?_)
            clear hK K
            try simp only [Act.put, List.getElem_toArray, List.getElem_cons_zero, List.getElem_cons_succ, List.setIfInBounds_toArray, List.set_cons_zero, List.set_cons_succ]
            refine wpAnyH_take (i := 10) (oi := _) (v := .pointer (some ⟨b3, 3, none⟩)) rfl (by kernel_rfl) (by kernel_rfl) (by kernel_rfl) (fun _ _ _ h => h) (Or.inl ⟨by rfl, fun W _ => rfl⟩) hHeld ?_
            try simp only [Act.put, List.getElem_toArray, List.getElem_cons_zero, List.getElem_cons_succ, List.setIfInBounds_toArray, List.set_cons_zero, List.set_cons_succ]
            refine wpAnyH_ready (rs := [11]) (by kernel_rfl) (by simp) ?_
            refine AllReadyH.cons (o := _) rfl (fun K hK => ?_) AllReadyH.nil
            clear hHeld
            go_simp
            refine hK.out _ _ (by exact KF.out _ (by repeat (first | assumption | exact Below.refl _ _ | refine Below.drew ?_ | refine Below.alloc ?_ (by first | assumption | exact Nat.le_refl _ | omega | (simp; done) | (simp; omega)) _ | refine Below.setCell ?_ (by first | assumption | exact Nat.le_refl _ | omega | (simp; done) | (simp; omega)) _))) (fun hHeld => ?_)
            clear hK K
            try simp only [Act.put, List.getElem_toArray, List.getElem_cons_zero, List.getElem_cons_succ, List.setIfInBounds_toArray, List.set_cons_zero, List.set_cons_succ]
            refine wpAnyH_done (by kernel_rfl) ?_ _
            go_wp2_with fail
            go_meet
            exact ⟨A7, c7, _, by rw [HNX.out]; exact HON.out⟩
      case rest =>
        go_wp2
        go_roundw
        case rel =>
          exact ⟨rs.length + 1, hlt, by go_num, hcut⟩
        case measure => simp [intOf]; omega
    · obtain rfl : n = rs.length := by omega
      have hrt : rs = t.rows := by rw [HRS.out, List.take_of_length_le (by omega)]
      have P := O.put (g := w.heap.size + 1) (by have := HF.out.z; omega) (.string t.name) (.int .i64 t.most) (.slice A3 m c3) (.slice A rs.length c)
      have BZ := below_four (DW.out wr hbr) (Nat.le_succ w.heap.size) (.string t.name) (.int .i64 t.most) (.slice A3 m c3) (.slice A rs.length c)
      have R := HF.out.r wr hbr
      have RZ := (((R.set0 (.string t.name)).set1 (.int .i64 t.most)).set2 (.slice A3 m c3)).set3 (.slice A rs.length c)
      have HE := Lib.hid (And.intro P (And.intro BZ (And.intro RZ (And.intro hrt (And.intro hm hn)))))
      obtain ⟨z0, z1, z2, z3, zf⟩ := R
      have zf0 := zf 0
      have zf1 := zf 1
      have zf2 := zf 2
      have zf3 := zf 3
      have hdl : decide (rs.length < rs.length) = false := by simp
      clear h hm hn hrs hrt P BZ RZ zf O gf
      go_wp2
      obtain ⟨P, BZ, RZ, hrt, hm, hn⟩ := HE.out
      refine bodyPost_ret (v := .agg #[.string t.name, .int .i64 t.most, .slice A3 m c3, .slice A rs.length c]) ?_ rfl ⟨A3, c3, A, c, rfl, own_base P.1 (by have := HF.out.z; omega), by rw [← hrt]; exact P.2.mono (by have := HF.out.z; omega), BZ⟩
      rw [results_cell1 rfl]
      exact load_tab1 _ _ RZ
end Go.Proofs.YtcgioepbooafcaaGreatDoor
