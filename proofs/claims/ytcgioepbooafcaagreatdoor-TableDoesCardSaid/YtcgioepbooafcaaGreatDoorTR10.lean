/- The reference's Without: a table without an id's record. Conditions: lengths within the model's. -/
import Derived.Test.YtcgioepbooafcaaGreatDoorTR9
namespace Go.Proofs.YtcgioepbooafcaaGreatDoor
open Go.RowKit
/-- what Without leaves, in the order of rows -/
def woF (id : ByteArray) (l : List RecC) : List RecC := l.filter fun x => !decide (x.id = id)
theorem woF_drop {id : ByteArray} {l : List RecC} {k : Nat} (h : k < l.length) : woF id (l.drop k) = if l[k].id = id then woF id (l.drop (k + 1)) else l[k] :: woF id (l.drop (k + 1)) := by
  rw [List.drop_eq_getElem_cons h]
  unfold woF
  by_cases g : l[k].id = id
  · rw [if_pos g, List.filter_cons_of_neg (by simp [g])]
  · rw [if_neg g, List.filter_cons_of_pos (by simp [g])]
set_option maxRecDepth 100000 in
set_option maxHeartbeats 16000000 in
theorem rwithout_any (t : TabC) (id : ByteArray) (Au : Option Addr) (cu : Nat) (Ar : Option Addr) (cr : Nat) (w : World) {B : Nat} (h : RTab w B t Au Ar) :
    Calls Tryz.prog 36 #[.agg #[.string t.name, .int .i64 t.most, .slice Au t.us.length cu, .slice Ar t.rows.length cr], .string id] w fun e w' => RTwin { t with rows := woF id t.rows } w e w' := by
  obtain ⟨i0, hi, hz0, hz1, hz2⟩ := info_parts info_recb
  obtain ⟨W1, hW1⟩ : ∃ W1, W1 = (w.alloc (.cells #[.string t.name, .int .i64 t.most, .slice Au t.us.length cu, .slice Ar t.rows.length cr] 25)).alloc (.cells #[.string ⟨#[]⟩, .int .i64 0, .slice none 0 0, .slice none 0 0] 25) := ⟨_, rfl⟩
  have F := f2z_mk w t Au cu Ar cr hW1
  have HF := Lib.hid F
  have dW : ∀ W, Below W1.heap.size W1 W → Below w.heap.size w W := fun W q => F.b.trans (q.mono F.b.size)
  have cT := rtwinT_any t Au cu Ar cr W1 (h.below F.b)
  have hul := h.ul
  have hrl := h.rl
  obtain ⟨m, hm⟩ : ∃ m, t.us.length = m := ⟨_, rfl⟩
  obtain ⟨n, hn⟩ : ∃ n, t.rows.length = n := ⟨_, rfl⟩
  have HH := Lib.hid (And.intro h (And.intro hm hn))
  have DW := Lib.hid dW
  have kt : ∀ W, Below W1.heap.size W1 W → Four W w.heap.size (.string t.name) (.int .i64 t.most) (.slice Au m cu) (.slice Ar n cr) := fun W q => by have := F.t W q; rw [hm, hn] at this; exact this
  have KT := Lib.hid kt
  unfold RTwin at cT ⊢
  simp only [hm, hn] at cT
  show Calls _ _ _ _ fun e w' => ∃ Au cu Ar cr, e = .returned (.agg #[.string t.name, .int .i64 t.most, .slice Au t.us.length cu, .slice Ar (woF id t.rows).length cr]) ∧ w'.ownsRow w.heap.size 9 1 (.slice Au t.us.length cu) t.us.length (sv t.us) ∧ OwnRows w' w.heap.size Ar cr (woF id t.rows) ∧ Below w.heap.size w w'
  obtain ⟨V, hV⟩ : ∃ V, woF id t.rows = V := ⟨_, rfl⟩
  rw [hV]
  have HV := Lib.hid hV
  rw [hm] at hul hW1 ⊢
  rw [hn] at hrl hW1 ⊢
  have HW1 := Lib.hid hW1
  obtain ⟨f0, f1, f2, f3, _⟩ := kt W1 (Below.refl _ _)
  have hsz := F.b.size
  clear h F dW hm hn hW1 kt hV
  go_enter Tryz.func36, Tryz.ntmps36
  go_wp2_with fail
  rw [← HW1.out]
  refine cT.mono ?_
  rintro e w5 ⟨A3, c3, Ar3, cr3, rfl, ou, _, hb5⟩
  clear cT f0 f1 f2 f3
  have hb5s := hb5.size
  go_upto_region 4 with fail
  obtain ⟨wb, hwb⟩ : ∃ wb, wb = w5.alloc (.cells #[.string t.name, .int .i64 t.most, .slice A3 m c3, .slice none 0 0] 25) := ⟨_, rfl⟩
  rw [← hwb]
  have O : OutTab W1 w5.heap.size t.name t.most t.us A3 m c3 [] none 0 [] wb := by
    rw [hwb]
    exact OutTab.start (hb5.alloc hb5.size _) hb5.size (by simp) (ou.alloc _) (une_lt ou (Nat.le_refl _)) (Four.new _ _ _ _ _ _)
  obtain ⟨b3, hb3⟩ : ∃ b, b = w5.heap.size := ⟨_, rfl⟩
  rw [← hb3] at O ⊢
  have HO := Lib.hid O
  clear O hwb hb3 ou
  go_loopw [6] (fun i wr => ∃ (k : Nat) (rs : List RecC), k ≤ n ∧ i = .int .i64 k ∧ rs.length ≤ k ∧ rs ++ woF id (t.rows.drop k) = V ∧ InCut W1 b3 t.name t.most t.us A3 m c3 rs wr) (fun i _ => n - (intOf i).toNat)
  case atStart => exact ⟨0, [], Nat.zero_le _, rfl, Nat.le_refl _, by rw [List.drop_zero, List.nil_append, HV.out], none, 0, [], HO.out⟩
  case round =>
    obtain ⟨k, rs, hk, rfl, hrk, hd, A, c, vs, O⟩ := hrel
    obtain ⟨h, hm, hn⟩ := HH.out
    have hbr := O.below
    obtain ⟨_, _, _, f3, _⟩ := KT.out wr hbr
    have OO := Lib.hid O
    have g3 := O.four.c3
    have hbl := O.lt
    have hle3 := O.le
    by_cases hlt : k < n
    · have hkr : k < t.rows.length := by omega
      have hkI : (k : Int) < n := by omega
      rw [woF_drop hkr] at hd
      obtain ⟨b, off, rfl, hrw⟩ := h.rowsAt (by omega)
      obtain ⟨A2, c2, r0, r1, rr⟩ := hrw wr (DW.out wr hbr) k hkr
      have ct := fun W (q : Below wr.heap.size wr W) => (rtwin_any t.rows[k] A2 c2 W (rr.below q).inn.rd (rr.below q).inn.le rr.inn.len).mono (R' := fun e w' => ∃ A5 c5, e = .returned (.agg #[.string t.rows[k].id, .slice A5 t.rows[k].data.length c5]) ∧ w'.ownsRow (b3 + 1) 47 5 (.slice A5 t.rows[k].data.length c5) t.rows[k].data.length (cv t.rows[k].data) ∧ Below W.heap.size W w') fun e w' hh => by
        obtain ⟨A5, c5, e1, o1, b1⟩ := hh
        exact ⟨A5, c5, e1, own_base o1 (by have := q.size; omega), b1⟩
      obtain ⟨x, hx⟩ : ∃ x, t.rows[k] = x := ⟨_, rfl⟩
      rw [hx] at r0 r1 hd
      simp only [hx] at ct
      have hbb := World.block_lt_of_cell? _ ⟨b, off + k * 2, none⟩ (hrw w (Below.refl _ _) k hkr).choose_spec.choose_spec.1
      have r0w := ((DW.out wr hbr).cell (p := ⟨b, off + k * 2, none⟩) hbb).symm.trans r0
      have r1w := ((DW.out wr hbr).cell (p := ⟨b, off + k * 2 + 1, none⟩) hbb).symm.trans r1
      have kF : ∀ W, Below W1.heap.size W1 W → W.cell? ⟨w.heap.size, 3, none⟩ = some (.slice (some ⟨b, off, none⟩) n cr) ∧ W.cell? ⟨b, off + k * 2, none⟩ = some (.string x.id) ∧ W.cell? ⟨b, off + k * 2 + 1, none⟩ = some (.slice A2 x.data.length c2) := fun W q =>
        ⟨(KT.out W q).c3, ((DW.out W q).cell (p := ⟨b, off + k * 2, none⟩) hbb).trans r0w, ((DW.out W q).cell (p := ⟨b, off + k * 2 + 1, none⟩) hbb).trans r1w⟩
      have KF := Lib.hid kF
      have CT := Lib.hid ct
      have hbe : (!(x.id.toList == id.toList)) = !decide (x.id = id) := by rw [ba_beq]
      have hbe2 : (x.id.toList == id.toList) = decide (x.id = id) := ba_beq ..
      by_cases hq : x.id = id
      · rw [if_pos hq] at hd
        rw [decide_eq_true hq] at hbe hbe2
        have HD := Lib.hid hd
        clear h hm hn hrw rr hx ct kF O r0w r1w hbb hd hq
        go_wp2
        go_roundw
        case rel => exact ⟨k + 1, rs, hlt, by go_num, by omega, HD.out, A, c, vs, OO.out⟩
        case measure => simp [intOf]; omega
      · rw [if_neg hq] at hd
        rw [decide_eq_false hq] at hbe hbe2
        have HD := Lib.hid hd
        clear h hm hn hrw rr hx ct kF O r0w r1w hbb hd hq
        go_upto_block 1 with fail
        go_cut [] (InCut W1 b3 t.name t.most t.us A3 m c3 (rs ++ [x]))
        case first =>
          go_upto_region 7 with fail
          refine wp_region_held_drew (S := fun W => W.cell? ⟨w.heap.size, 3, none⟩ = some (.slice (some ⟨b, off, none⟩) n cr) ∧ W.cell? ⟨b, off + k * 2, none⟩ = some (.string x.id) ∧ W.cell? ⟨b, off + k * 2 + 1, none⟩ = some (.slice A2 x.data.length c2)) (by kernel_rfl) (by exact KF.out _ (by repeat (first | assumption | exact Below.refl _ _ | refine Below.drew ?_ | refine Below.alloc ?_ (by first | assumption | exact Nat.le_refl _ | omega | (simp; done) | (simp; omega)) _ | refine Below.setCell ?_ (by first | assumption | exact Nat.le_refl _ | omega | (simp; done) | (simp; omega)) _))) (fun hHeld => ?_)
          refine wpAnyH_take (i := 0) (oi := _) (v := .pointer (some ⟨b3, 3, none⟩)) rfl (by kernel_rfl) (by kernel_rfl) (by kernel_rfl) (fun _ _ _ h => h) (Or.inl ⟨by rfl, fun W _ => rfl⟩) hHeld ?_
          try simp only [Act.put, List.getElem_toArray, List.getElem_cons_zero, List.setIfInBounds_toArray, List.set_cons_zero, List.set_cons_succ]
          refine wpAnyH_take (i := 2) (oi := _) (v := .pointer (some ⟨w.heap.size, 3, none⟩)) rfl (by kernel_rfl) (by kernel_rfl) (by kernel_rfl) (fun _ _ _ h => h) (Or.inl ⟨by rfl, fun W _ => rfl⟩) hHeld ?_
          try simp only [Act.put, List.getElem_toArray, List.getElem_cons_zero, List.getElem_cons_succ, List.setIfInBounds_toArray, List.set_cons_zero, List.set_cons_succ]
          refine wpAnyH_take (i := 3) (oi := _) (v := .slice (some ⟨b, off, none⟩) n cr) rfl (by kernel_rfl) (by kernel_rfl) (by kernel_rfl) (fun _ _ _ h => h) (Or.inl ⟨by rfl, by intro W hW; obtain ⟨q1, q2, q3⟩ := hW; go_simp⟩) hHeld ?_
          try simp only [Act.put, List.getElem_toArray, List.getElem_cons_zero, List.getElem_cons_succ, List.setIfInBounds_toArray, List.set_cons_zero, List.set_cons_succ]
          refine wpAnyH_take (i := 4) (oi := _) (v := .int .i64 k) rfl (by kernel_rfl) (by kernel_rfl) (by kernel_rfl) (fun _ _ _ h => h) (Or.inl ⟨by rfl, fun W _ => rfl⟩) hHeld ?_
          try simp only [Act.put, List.getElem_toArray, List.getElem_cons_zero, List.getElem_cons_succ, List.setIfInBounds_toArray, List.set_cons_zero, List.set_cons_succ]
          refine wpAnyH_take (i := 5) (oi := _) (v := .pointer (some ⟨b, off + k * 2, none⟩)) rfl (by kernel_rfl) (by kernel_rfl) (by kernel_rfl) (fun _ _ _ h => h) (Or.inl ⟨by rfl, by intro W hW; clear hW; go_simp⟩) hHeld ?_
          try simp only [Act.put, List.getElem_toArray, List.getElem_cons_zero, List.getElem_cons_succ, List.setIfInBounds_toArray, List.set_cons_zero, List.set_cons_succ]
          refine wpAnyH_take (i := 6) (oi := _) (v := .agg #[.string x.id, .slice A2 x.data.length c2]) rfl (by kernel_rfl) (by kernel_rfl) (by kernel_rfl) (fun _ _ _ h => h) (Or.inl ⟨by rfl, by intro W hW; obtain ⟨q1, q2, q3⟩ := hW; go_simp⟩) hHeld ?_
          try simp only [Act.put, List.getElem_toArray, List.getElem_cons_zero, List.getElem_cons_succ, List.setIfInBounds_toArray, List.set_cons_zero, List.set_cons_succ]
          refine wpAnyH_ready (rs := [1, 7]) (by kernel_rfl) (by simp) ?_
          refine AllReadyH.cons (o := _) rfl (fun K hK => ?_) (AllReadyH.cons (o := _) rfl (fun K hK => ?_) AllReadyH.nil)
          · skip
            clear hHeld
            go_simp
            refine hK.out _ _ (by exact KF.out _ (by repeat (first | assumption | exact Below.refl _ _ | refine Below.drew ?_ | refine Below.alloc ?_ (by first | assumption | exact Nat.le_refl _ | omega | (simp; done) | (simp; omega)) _ | refine Below.setCell ?_ (by first | assumption | exact Nat.le_refl _ | omega | (simp; done) | (simp; omega)) _))) (fun hHeld => ?_)
            clear hK K
            try simp only [Act.put, List.getElem_toArray, List.getElem_cons_zero, List.getElem_cons_succ, List.setIfInBounds_toArray, List.set_cons_zero, List.set_cons_succ]
            refine wpAnyH_ready (rs := [7]) (by kernel_rfl) (by simp) ?_
            refine AllReadyH.cons (o := _) rfl (fun K hK => ?_) AllReadyH.nil
            clear hHeld
            go_simp
            refine (CT.out _ ?hq).mono ?_
            case hq => exact (by repeat (first | assumption | exact Below.refl _ _ | refine Below.drew ?_))
            rintro e w5 ⟨A5, c5, rfl, ho5, hb5⟩
            have hq5 : Below wr.heap.size wr w5 := Below.trans (by repeat (first | assumption | exact Below.refl _ _ | refine Below.drew ?_)) (hb5.mono (by simp))
            have hl5 := hq5.size
            have O5 := OO.out.step hq5
            have hb5 := O5.below
            have hb3l := O5.lt
            have q3 := O5.four.c3
            have HO5 := Lib.hid (And.intro O5 ho5)
            clear O5 ho5
            refine hK.out _ _ (by exact KF.out _ (by repeat (first | assumption | exact Below.refl _ _ | refine Below.drew ?_ | refine Below.alloc ?_ (by first | assumption | exact Nat.le_refl _ | omega | (simp; done) | (simp; omega)) _ | refine Below.setCell ?_ (by first | assumption | exact Nat.le_refl _ | omega | (simp; done) | (simp; omega)) _))) (fun hHeld => ?_)
            clear hK K
            try simp only [Act.put, List.getElem_toArray, List.getElem_cons_zero, List.getElem_cons_succ, List.setIfInBounds_toArray, List.set_cons_zero, List.set_cons_succ]
            refine wpAnyH_ready (rs := [8]) (by kernel_rfl) (by simp) ?_
            refine AllReadyH.cons (o := _) rfl (fun K hK => ?_) AllReadyH.nil
            clear hHeld
            go_simp
            refine hK.out _ _ (by exact KF.out _ (by repeat (first | assumption | exact Below.refl _ _ | refine Below.drew ?_ | refine Below.alloc ?_ (by first | assumption | exact Nat.le_refl _ | omega | (simp; done) | (simp; omega)) _ | refine Below.setCell ?_ (by first | assumption | exact Nat.le_refl _ | omega | (simp; done) | (simp; omega)) _))) (fun hHeld => ?_)
            clear hK K
            try simp only [Act.put, List.getElem_toArray, List.getElem_cons_zero, List.getElem_cons_succ, List.setIfInBounds_toArray, List.set_cons_zero, List.set_cons_succ]
            refine wpAnyH_ready (rs := [9]) (by kernel_rfl) (by simp) ?_
            refine AllReadyH.cons (o := _) rfl (fun K hK => ?_) AllReadyH.nil
            clear hHeld
            refine step_append_rdK (by rfl) _ _ _ (by rfl) (b3 + 1) 28 i0 (.agg #[.string ⟨#[]⟩, .slice none 0 0]) 2 40 Tryz.underlying23 hi hz0 hz1 hz2 (by rfl) (by decide) (.slice A rs.length c) rs.length vs (by rfl) (HO5.out.1.own.alloc _) (B := w5.heap.size + 1) (some ⟨w5.heap.size, 0, none⟩) 1 1 [.string x.id, .slice A5 x.data.length c5] (by rfl) (rd_new w5 _ _ _ rfl) (by rfl) (rec_one _ _ _ _) (by unfold maxLen; omega) (by omega) (by simp; omega) ?_
            intro v7 w7 ho7 hg7 _
            obtain ⟨A7, c7, rfl, _, _⟩ := own_slice ho7
            have O6 := HO5.out.1.step ((Below.refl w5.heap.size w5).alloc (Nat.le_refl _) (.cells #[.string x.id, .slice A5 x.data.length c5] 28))
            have ON := O6.add (HO5.out.2.alloc _) ho7 hg7
            have f7 := O6.four.grown hg7 (by intro e; have := (O6.own.lt b3 e.symm).1; omega)
            have hb7 : Below W1.heap.size W1 w7 := O6.below.grown hg7 O6.below.size (fun k hk => by have := (O6.own.lt k hk).1; have := O6.le; omega)
            obtain ⟨_, _, _, s3, sf⟩ := f7
            have s4 := sf 3
            have HON := Lib.hid ON
            clear O6 ON sf
            refine hK.out _ _ (by exact KF.out _ (by repeat (first | assumption | exact Below.refl _ _ | refine Below.drew ?_ | refine Below.alloc ?_ (by first | assumption | exact Nat.le_refl _ | omega | (simp; done) | (simp; omega)) _ | refine Below.setCell ?_ (by first | assumption | exact Nat.le_refl _ | omega | (simp; done) | (simp; omega)) _))) (fun hHeld => ?_)
            clear hK K
            try simp only [Act.put, List.getElem_toArray, List.getElem_cons_zero, List.getElem_cons_succ, List.setIfInBounds_toArray, List.set_cons_zero, List.set_cons_succ]
            refine wpAnyH_take (i := 10) (oi := _) (v := .pointer (some ⟨b3, 3, none⟩)) rfl (by kernel_rfl) (by kernel_rfl) (by kernel_rfl) (fun _ _ _ h => h) (Or.inl ⟨by rfl, fun W _ => rfl⟩) hHeld ?_
            try simp only [Act.put, List.getElem_toArray, List.getElem_cons_zero, List.getElem_cons_succ, List.setIfInBounds_toArray, List.set_cons_zero, List.set_cons_succ]
            refine wpAnyH_ready (rs := [11]) (by kernel_rfl) (by simp) ?_
            refine AllReadyH.cons (o := _) rfl (fun K hK => ?_) AllReadyH.nil
            clear hHeld
            go_simp
            refine hK.out _ _ (by exact KF.out _ (by repeat (first | assumption | exact Below.refl _ _ | refine Below.drew ?_ | refine Below.alloc ?_ (by first | assumption | exact Nat.le_refl _ | omega | (simp; done) | (simp; omega)) _ | refine Below.setCell ?_ (by first | assumption | exact Nat.le_refl _ | omega | (simp; done) | (simp; omega)) _))) (fun hHeld => ?_)
            clear hK K
            try simp only [Act.put, List.getElem_toArray, List.getElem_cons_zero, List.getElem_cons_succ, List.setIfInBounds_toArray, List.set_cons_zero, List.set_cons_succ]
            refine wpAnyH_done (by kernel_rfl) ?_ _
            go_wp2_with fail
            go_meet
            exact ⟨A7, c7, _, HON.out⟩
          · skip
            clear hHeld
            go_simp
            refine (CT.out _ ?hq).mono ?_
            case hq => exact (by repeat (first | assumption | exact Below.refl _ _ | refine Below.drew ?_))
            rintro e w5 ⟨A5, c5, rfl, ho5, hb5⟩
            have hq5 : Below wr.heap.size wr w5 := Below.trans (by repeat (first | assumption | exact Below.refl _ _ | refine Below.drew ?_)) (hb5.mono (by simp))
            have hl5 := hq5.size
            have O5 := OO.out.step hq5
            have hb5 := O5.below
            have hb3l := O5.lt
            have q3 := O5.four.c3
            have HO5 := Lib.hid (And.intro O5 ho5)
            clear O5 ho5
            refine hK.out _ _ (by exact KF.out _ (by repeat (first | assumption | exact Below.refl _ _ | refine Below.drew ?_ | refine Below.alloc ?_ (by first | assumption | exact Nat.le_refl _ | omega | (simp; done) | (simp; omega)) _ | refine Below.setCell ?_ (by first | assumption | exact Nat.le_refl _ | omega | (simp; done) | (simp; omega)) _))) (fun hHeld => ?_)
            clear hK K
            try simp only [Act.put, List.getElem_toArray, List.getElem_cons_zero, List.getElem_cons_succ, List.setIfInBounds_toArray, List.set_cons_zero, List.set_cons_succ]
            refine wpAnyH_ready (rs := [1, 8]) (by kernel_rfl) (by simp) ?_
            refine AllReadyH.cons (o := _) rfl (fun K hK => ?_) (AllReadyH.cons (o := _) rfl (fun K hK => ?_) AllReadyH.nil)
            · skip
              clear hHeld
              go_simp
              refine hK.out _ _ (by exact KF.out _ (by repeat (first | assumption | exact Below.refl _ _ | refine Below.drew ?_ | refine Below.alloc ?_ (by first | assumption | exact Nat.le_refl _ | omega | (simp; done) | (simp; omega)) _ | refine Below.setCell ?_ (by first | assumption | exact Nat.le_refl _ | omega | (simp; done) | (simp; omega)) _))) (fun hHeld => ?_)
              clear hK K
              try simp only [Act.put, List.getElem_toArray, List.getElem_cons_zero, List.getElem_cons_succ, List.setIfInBounds_toArray, List.set_cons_zero, List.set_cons_succ]
              refine wpAnyH_ready (rs := [8]) (by kernel_rfl) (by simp) ?_
              refine AllReadyH.cons (o := _) rfl (fun K hK => ?_) AllReadyH.nil
              clear hHeld
              go_simp
              refine hK.out _ _ (by exact KF.out _ (by repeat (first | assumption | exact Below.refl _ _ | refine Below.drew ?_ | refine Below.alloc ?_ (by first | assumption | exact Nat.le_refl _ | omega | (simp; done) | (simp; omega)) _ | refine Below.setCell ?_ (by first | assumption | exact Nat.le_refl _ | omega | (simp; done) | (simp; omega)) _))) (fun hHeld => ?_)
              clear hK K
              try simp only [Act.put, List.getElem_toArray, List.getElem_cons_zero, List.getElem_cons_succ, List.setIfInBounds_toArray, List.set_cons_zero, List.set_cons_succ]
              refine wpAnyH_ready (rs := [9]) (by kernel_rfl) (by simp) ?_
              refine AllReadyH.cons (o := _) rfl (fun K hK => ?_) AllReadyH.nil
              clear hHeld
              refine step_append_rdK (by rfl) _ _ _ (by rfl) (b3 + 1) 28 i0 (.agg #[.string ⟨#[]⟩, .slice none 0 0]) 2 40 Tryz.underlying23 hi hz0 hz1 hz2 (by rfl) (by decide) (.slice A rs.length c) rs.length vs (by rfl) (HO5.out.1.own.alloc _) (B := w5.heap.size + 1) (some ⟨w5.heap.size, 0, none⟩) 1 1 [.string x.id, .slice A5 x.data.length c5] (by rfl) (rd_new w5 _ _ _ rfl) (by rfl) (rec_one _ _ _ _) (by unfold maxLen; omega) (by omega) (by simp; omega) ?_
              intro v7 w7 ho7 hg7 _
              obtain ⟨A7, c7, rfl, _, _⟩ := own_slice ho7
              have O6 := HO5.out.1.step ((Below.refl w5.heap.size w5).alloc (Nat.le_refl _) (.cells #[.string x.id, .slice A5 x.data.length c5] 28))
              have ON := O6.add (HO5.out.2.alloc _) ho7 hg7
              have f7 := O6.four.grown hg7 (by intro e; have := (O6.own.lt b3 e.symm).1; omega)
              have hb7 : Below W1.heap.size W1 w7 := O6.below.grown hg7 O6.below.size (fun k hk => by have := (O6.own.lt k hk).1; have := O6.le; omega)
              obtain ⟨_, _, _, s3, sf⟩ := f7
              have s4 := sf 3
              have HON := Lib.hid ON
              clear O6 ON sf
              refine hK.out _ _ (by exact KF.out _ (by repeat (first | assumption | exact Below.refl _ _ | refine Below.drew ?_ | refine Below.alloc ?_ (by first | assumption | exact Nat.le_refl _ | omega | (simp; done) | (simp; omega)) _ | refine Below.setCell ?_ (by first | assumption | exact Nat.le_refl _ | omega | (simp; done) | (simp; omega)) _))) (fun hHeld => ?_)
              clear hK K
              try simp only [Act.put, List.getElem_toArray, List.getElem_cons_zero, List.getElem_cons_succ, List.setIfInBounds_toArray, List.set_cons_zero, List.set_cons_succ]
              refine wpAnyH_take (i := 10) (oi := _) (v := .pointer (some ⟨b3, 3, none⟩)) rfl (by kernel_rfl) (by kernel_rfl) (by kernel_rfl) (fun _ _ _ h => h) (Or.inl ⟨by rfl, fun W _ => rfl⟩) hHeld ?_
              try simp only [Act.put, List.getElem_toArray, List.getElem_cons_zero, List.getElem_cons_succ, List.setIfInBounds_toArray, List.set_cons_zero, List.set_cons_succ]
              refine wpAnyH_ready (rs := [11]) (by kernel_rfl) (by simp) ?_
              refine AllReadyH.cons (o := _) rfl (fun K hK => ?_) AllReadyH.nil
              clear hHeld
              go_simp
              refine hK.out _ _ (by exact KF.out _ (by repeat (first | assumption | exact Below.refl _ _ | refine Below.drew ?_ | refine Below.alloc ?_ (by first | assumption | exact Nat.le_refl _ | omega | (simp; done) | (simp; omega)) _ | refine Below.setCell ?_ (by first | assumption | exact Nat.le_refl _ | omega | (simp; done) | (simp; omega)) _))) (fun hHeld => ?_)
              clear hK K
              try simp only [Act.put, List.getElem_toArray, List.getElem_cons_zero, List.getElem_cons_succ, List.setIfInBounds_toArray, List.set_cons_zero, List.set_cons_succ]
              refine wpAnyH_done (by kernel_rfl) ?_ _
              go_wp2_with fail
              go_meet
              exact ⟨A7, c7, _, HON.out⟩
            · skip
              clear hHeld
              go_simp
              refine hK.out _ _ (by exact KF.out _ (by repeat (first | assumption | exact Below.refl _ _ | refine Below.drew ?_ | refine Below.alloc ?_ (by first | assumption | exact Nat.le_refl _ | omega | (simp; done) | (simp; omega)) _ | refine Below.setCell ?_ (by first | assumption | exact Nat.le_refl _ | omega | (simp; done) | (simp; omega)) _))) (fun hHeld => ?_)
              clear hK K
              try simp only [Act.put, List.getElem_toArray, List.getElem_cons_zero, List.getElem_cons_succ, List.setIfInBounds_toArray, List.set_cons_zero, List.set_cons_succ]
              refine wpAnyH_ready (rs := [1]) (by kernel_rfl) (by simp) ?_
              refine AllReadyH.cons (o := _) rfl (fun K hK => ?_) AllReadyH.nil
              clear hHeld
              go_simp
              refine hK.out _ _ (by exact KF.out _ (by repeat (first | assumption | exact Below.refl _ _ | refine Below.drew ?_ | refine Below.alloc ?_ (by first | assumption | exact Nat.le_refl _ | omega | (simp; done) | (simp; omega)) _ | refine Below.setCell ?_ (by first | assumption | exact Nat.le_refl _ | omega | (simp; done) | (simp; omega)) _))) (fun hHeld => ?_)
              clear hK K
              try simp only [Act.put, List.getElem_toArray, List.getElem_cons_zero, List.getElem_cons_succ, List.setIfInBounds_toArray, List.set_cons_zero, List.set_cons_succ]
              refine wpAnyH_ready (rs := [9]) (by kernel_rfl) (by simp) ?_
              refine AllReadyH.cons (o := _) rfl (fun K hK => ?_) AllReadyH.nil
              clear hHeld
              refine step_append_rdK (by rfl) _ _ _ (by rfl) (b3 + 1) 28 i0 (.agg #[.string ⟨#[]⟩, .slice none 0 0]) 2 40 Tryz.underlying23 hi hz0 hz1 hz2 (by rfl) (by decide) (.slice A rs.length c) rs.length vs (by rfl) (HO5.out.1.own.alloc _) (B := w5.heap.size + 1) (some ⟨w5.heap.size, 0, none⟩) 1 1 [.string x.id, .slice A5 x.data.length c5] (by rfl) (rd_new w5 _ _ _ rfl) (by rfl) (rec_one _ _ _ _) (by unfold maxLen; omega) (by omega) (by simp; omega) ?_
              intro v7 w7 ho7 hg7 _
              obtain ⟨A7, c7, rfl, _, _⟩ := own_slice ho7
              have O6 := HO5.out.1.step ((Below.refl w5.heap.size w5).alloc (Nat.le_refl _) (.cells #[.string x.id, .slice A5 x.data.length c5] 28))
              have ON := O6.add (HO5.out.2.alloc _) ho7 hg7
              have f7 := O6.four.grown hg7 (by intro e; have := (O6.own.lt b3 e.symm).1; omega)
              have hb7 : Below W1.heap.size W1 w7 := O6.below.grown hg7 O6.below.size (fun k hk => by have := (O6.own.lt k hk).1; have := O6.le; omega)
              obtain ⟨_, _, _, s3, sf⟩ := f7
              have s4 := sf 3
              have HON := Lib.hid ON
              clear O6 ON sf
              refine hK.out _ _ (by exact KF.out _ (by repeat (first | assumption | exact Below.refl _ _ | refine Below.drew ?_ | refine Below.alloc ?_ (by first | assumption | exact Nat.le_refl _ | omega | (simp; done) | (simp; omega)) _ | refine Below.setCell ?_ (by first | assumption | exact Nat.le_refl _ | omega | (simp; done) | (simp; omega)) _))) (fun hHeld => ?_)
              clear hK K
              try simp only [Act.put, List.getElem_toArray, List.getElem_cons_zero, List.getElem_cons_succ, List.setIfInBounds_toArray, List.set_cons_zero, List.set_cons_succ]
              refine wpAnyH_take (i := 10) (oi := _) (v := .pointer (some ⟨b3, 3, none⟩)) rfl (by kernel_rfl) (by kernel_rfl) (by kernel_rfl) (fun _ _ _ h => h) (Or.inl ⟨by rfl, fun W _ => rfl⟩) hHeld ?_
              try simp only [Act.put, List.getElem_toArray, List.getElem_cons_zero, List.getElem_cons_succ, List.setIfInBounds_toArray, List.set_cons_zero, List.set_cons_succ]
              refine wpAnyH_ready (rs := [11]) (by kernel_rfl) (by simp) ?_
              refine AllReadyH.cons (o := _) rfl (fun K hK => ?_) AllReadyH.nil
              clear hHeld
              go_simp
              refine hK.out _ _ (by exact KF.out _ (by repeat (first | assumption | exact Below.refl _ _ | refine Below.drew ?_ | refine Below.alloc ?_ (by first | assumption | exact Nat.le_refl _ | omega | (simp; done) | (simp; omega)) _ | refine Below.setCell ?_ (by first | assumption | exact Nat.le_refl _ | omega | (simp; done) | (simp; omega)) _))) (fun hHeld => ?_)
              clear hK K
              try simp only [Act.put, List.getElem_toArray, List.getElem_cons_zero, List.getElem_cons_succ, List.setIfInBounds_toArray, List.set_cons_zero, List.set_cons_succ]
              refine wpAnyH_done (by kernel_rfl) ?_ _
              go_wp2_with fail
              go_meet
              exact ⟨A7, c7, _, HON.out⟩
        case rest =>
          go_wp2
          go_roundw
          case rel => exact ⟨k + 1, rs ++ [x], hlt, by go_num, by simp; omega, by rw [List.append_assoc]; exact HD.out, hcut⟩
          case measure => simp [intOf]; omega
    · obtain rfl : k = n := by omega
      have hrt : rs = V := by rw [List.drop_of_length_le (by omega)] at hd; simpa [woF] using hd
      have P := O.put (g := w.heap.size + 1) (by have := HF.out.z; omega) (.string t.name) (.int .i64 t.most) (.slice A3 m c3) (.slice A rs.length c)
      have BZ := below_four (DW.out wr hbr) (Nat.le_succ w.heap.size) (.string t.name) (.int .i64 t.most) (.slice A3 m c3) (.slice A rs.length c)
      have R := HF.out.r wr hbr
      have RZ := (((R.set0 (.string t.name)).set1 (.int .i64 t.most)).set2 (.slice A3 m c3)).set3 (.slice A rs.length c)
      have HE := Lib.hid (And.intro P (And.intro BZ (And.intro RZ hrt)))
      obtain ⟨z0, z1, z2, z3, zf⟩ := R
      have zf0 := zf 0
      have zf1 := zf 1
      have zf2 := zf 2
      have zf3 := zf 3
      have hdl : decide (k < k) = false := by simp
      obtain ⟨g0, g1, g2, _, _⟩ := O.four
      clear h hm hn hd hrt P BZ RZ zf O
      go_wp2
      obtain ⟨P, BZ, RZ, hrt⟩ := HE.out
      refine bodyPost_ret (v := .agg #[.string t.name, .int .i64 t.most, .slice A3 m c3, .slice A rs.length c]) ?_ rfl ⟨A3, c3, A, c, by rw [← hrt], own_base P.1 (by have := HF.out.z; omega), by rw [← hrt]; exact P.2.mono (by have := HF.out.z; omega), BZ⟩
      rw [results_cell1 rfl]
      exact load_tab1 _ _ RZ
end Go.Proofs.YtcgioepbooafcaaGreatDoor
