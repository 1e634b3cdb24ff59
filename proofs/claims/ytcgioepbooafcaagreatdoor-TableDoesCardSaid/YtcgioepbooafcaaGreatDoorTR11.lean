/- The reference's With: a table with a record in its place. Conditions: lengths within the model's. -/
import Derived.Test.YtcgioepbooafcaaGreatDoorTR10
namespace Go.Proofs.YtcgioepbooafcaaGreatDoor
open Go.RowKit
/-- what With leaves of what is still to come -/
def wiF (r : RecC) : Bool → List RecC → List RecC
  | d, [] => if d then [] else [r]
  | d, x :: l => if (!d && slt r.id x.id) = true then r :: x :: wiF r true l else x :: wiF r d l
theorem wiF_drop {r : RecC} {d : Bool} {l : List RecC} {k : Nat} (h : k < l.length) : wiF r d (l.drop k) = if (!d && slt r.id l[k].id) = true then r :: l[k] :: wiF r true (l.drop (k + 1)) else l[k] :: wiF r d (l.drop (k + 1)) := by
  rw [List.drop_eq_getElem_cons h, wiF]
/-- the table's box, the record's, a zero one -/
structure F3z (w W1 : World) (t : TabC) (r : RecC) (Au : Option Addr) (cu : Nat) (Ar : Option Addr) (cr : Nat) (A : Option Addr) (c : Nat) : Prop where
  b : Below w.heap.size w W1
  z : W1.heap.size = w.heap.size + 1 + 1 + 1
  t : ∀ W, Below W1.heap.size W1 W → Four W w.heap.size (.string t.name) (.int .i64 t.most) (.slice Au t.us.length cu) (.slice Ar t.rows.length cr)
  r : ∀ W, Below W1.heap.size W1 W → Pair2 W (w.heap.size + 1) (.string r.id) (.slice A r.data.length c)
  o : ∀ W, Below W1.heap.size W1 W → Four W (w.heap.size + 1 + 1) (.string ⟨#[]⟩) (.int .i64 0) (.slice none 0 0) (.slice none 0 0)
theorem f3z_mk (w : World) (t : TabC) (r : RecC) (Au : Option Addr) (cu : Nat) (Ar : Option Addr) (cr : Nat) (A : Option Addr) (c : Nat) {W1 : World} (hW : W1 = (Box2r w t r Au cu Ar cr A c).alloc (.cells #[.string ⟨#[]⟩, .int .i64 0, .slice none 0 0, .slice none 0 0] 25)) : F3z w W1 t r Au cu Ar cr A c := by
  subst hW
  have F := f2_mk w t r Au cu Ar cr A c
  have e := F.z
  have hz : ((Box2r w t r Au cu Ar cr A c).alloc (.cells #[.string ⟨#[]⟩, .int .i64 0, .slice none 0 0, .slice none 0 0] 25)).heap.size = w.heap.size + 1 + 1 + 1 := by simp [e]
  have q0 : Below (Box2r w t r Au cu Ar cr A c).heap.size (Box2r w t r Au cu Ar cr A c) ((Box2r w t r Au cu Ar cr A c).alloc (.cells #[.string ⟨#[]⟩, .int .i64 0, .slice none 0 0, .slice none 0 0] 25)) := (Below.refl _ _).alloc (Nat.le_refl _) _
  refine ⟨F.b.alloc F.b.size _, hz, fun W q => (F.t _ (q0.trans (q.mono (by omega)))), fun W q => (F.r _ (q0.trans (q.mono (by omega)))), fun W q => ?_⟩
  have g := Four.new (Box2r w t r Au cu Ar cr A c) (.string ⟨#[]⟩) (.int .i64 0) (.slice none 0 0) (.slice none 0 0) 25
  rw [e] at g
  exact g.below q (by omega)
def InCutD (d : Bool) (W0 : World) (b : Nat) (nm : ByteArray) (mo : Int) (us : List ByteArray) (Au : Option Addr) (nu cu : Nat) (rs : List RecC) (v : Value) (W : World) : Prop := v = .bool d ∧ ∃ A c vs, OutTab W0 b nm mo us Au nu cu rs A c vs W
def Cut7 (q : Bool) (W0 : World) (b : Nat) (nm : ByteArray) (mo : Int) (us : List ByteArray) (Au : Option Addr) (nu cu : Nat) (rs : List RecC) (A : Option Addr) (c : Nat) (vs : List Value) (v : Value) (W : World) : Prop := v = .bool q ∧ OutTab W0 b nm mo us Au nu cu rs A c vs W
set_option maxRecDepth 100000 in
set_option maxHeartbeats 16000000 in
theorem rwith_any (t : TabC) (r : RecC) (Au : Option Addr) (cu : Nat) (Ar : Option Addr) (cr : Nat) (A : Option Addr) (c : Nat) (w : World) {B B' : Nat} (h : RTab w B t Au Ar) (hr : RRec w B' r A c) (hid : r.id.size ≤ maxLen) :
    Calls Tryz.prog 65 #[.agg #[.string t.name, .int .i64 t.most, .slice Au t.us.length cu, .slice Ar t.rows.length cr], .agg #[.string r.id, .slice A r.data.length c]] w fun e w' => RTwin { t with rows := wiF r false t.rows } w e w' := by
  obtain ⟨i0, hi, hz0, hz1, hz2⟩ := info_parts info_recb
  obtain ⟨W1, hW1⟩ : ∃ W1, W1 = (Box2r w t r Au cu Ar cr A c).alloc (.cells #[.string ⟨#[]⟩, .int .i64 0, .slice none 0 0, .slice none 0 0] 25) := ⟨_, rfl⟩
  have F := f3z_mk w t r Au cu Ar cr A c hW1
  unfold Box2r at hW1
  have HF := Lib.hid F
  have dW : ∀ W, Below W1.heap.size W1 W → Below w.heap.size w W := fun W q => F.b.trans (q.mono F.b.size)
  have cT := rtwinT_any t Au cu Ar cr W1 (h.below F.b)
  have hul := h.ul
  have hrl := h.rl
  obtain ⟨m, hm⟩ : ∃ m, t.us.length = m := ⟨_, rfl⟩
  obtain ⟨n, hn⟩ : ∃ n, t.rows.length = n := ⟨_, rfl⟩
  have HH := Lib.hid (And.intro h (And.intro hm (And.intro hn (And.intro hr hid))))
  have kR : ∀ W, Below W1.heap.size W1 W → W.cell? ⟨w.heap.size + 1, 0, none⟩ = some (.string r.id) ∧ W.cell? ⟨w.heap.size + 1, 1, none⟩ = some (.slice A r.data.length c) := fun W q => F.r W q
  have KR := Lib.hid kR
  have cR := fun W (q : Below W1.heap.size W1 W) => rtwin_any r A c W (hr.below (dW W q)).inn.rd (hr.below (dW W q)).inn.le hr.inn.len
  have CR0 := Lib.hid cR
  have DW := Lib.hid dW
  have kt : ∀ W, Below W1.heap.size W1 W → Four W w.heap.size (.string t.name) (.int .i64 t.most) (.slice Au m cu) (.slice Ar n cr) := fun W q => by have := F.t W q; rw [hm, hn] at this; exact this
  have KT := Lib.hid kt
  unfold RTwin at cT ⊢
  simp only [hm, hn] at cT
  show Calls _ _ _ _ fun e w' => ∃ Au cu Ar cr, e = .returned (.agg #[.string t.name, .int .i64 t.most, .slice Au t.us.length cu, .slice Ar (wiF r false t.rows).length cr]) ∧ w'.ownsRow w.heap.size 9 1 (.slice Au t.us.length cu) t.us.length (sv t.us) ∧ OwnRows w' w.heap.size Ar cr (wiF r false t.rows) ∧ Below w.heap.size w w'
  obtain ⟨V, hV⟩ : ∃ V, wiF r false t.rows = V := ⟨_, rfl⟩
  rw [hV]
  have HV := Lib.hid hV
  rw [hm] at hul hW1 ⊢
  rw [hn] at hrl hW1 ⊢
  have HW1 := Lib.hid hW1
  obtain ⟨f0, f1, f2, f3, _⟩ := kt W1 (Below.refl _ _)
  have hsz := F.b.size
  clear h F dW hm hn hW1 kt hV hr hid kR cR
  go_enter Tryz.func65, Tryz.ntmps65
  go_wp2_with fail
  rw [← HW1.out]
  refine cT.mono ?_
  rintro e w5 ⟨A3, c3, Ar3, cr3, rfl, ou, _, hb5⟩
  clear cT f0 f1 f2 f3
  have hb5s := hb5.size
  go_upto_region 5 with fail
  obtain ⟨wb, hwb⟩ : ∃ wb, wb = w5.alloc (.cells #[.string t.name, .int .i64 t.most, .slice A3 m c3, .slice none 0 0] 25) := ⟨_, rfl⟩
  rw [← hwb]
  have O : OutTab W1 w5.heap.size t.name t.most t.us A3 m c3 [] none 0 [] wb := by
    rw [hwb]
    exact OutTab.start (hb5.alloc hb5.size _) hb5.size (by simp) (ou.alloc _) (une_lt ou (Nat.le_refl _)) (Four.new _ _ _ _ _ _)
  obtain ⟨b3, hb3⟩ : ∃ b, b = w5.heap.size := ⟨_, rfl⟩
  rw [← hb3] at O ⊢
  have HO := Lib.hid O
  clear O hwb hb3 ou
  have cR := fun W (q : Below W1.heap.size W1 W) (hl : b3 < W.heap.size) => (CR0.out W q).mono (R' := fun e w' => ∃ A5 c5, e = .returned (.agg #[.string r.id, .slice A5 r.data.length c5]) ∧ w'.ownsRow (b3 + 1) 47 5 (.slice A5 r.data.length c5) r.data.length (cv r.data) ∧ Below W.heap.size W w') fun e w' hh => by
    obtain ⟨A5, c5, e1, o1, b1⟩ := hh
    exact ⟨A5, c5, e1, own_base o1 hl, b1⟩
  have CR := Lib.hid cR
  clear cR
  go_loopw [7, 6] (fun i dv wr => ∃ (k : Nat) (d : Bool) (rs : List RecC), k ≤ n ∧ i = .int .i64 k ∧ dv = .bool d ∧ rs.length ≤ k + (if d then 1 else 0) ∧ rs ++ wiF r d (t.rows.drop k) = V ∧ InCut W1 b3 t.name t.most t.us A3 m c3 rs wr) (fun i _ _ => n - (intOf i).toNat)
  case atStart => exact ⟨0, false, [], Nat.zero_le _, rfl, rfl, Nat.le_refl _, by rw [List.drop_zero, List.nil_append, HV.out], none, 0, [], HO.out⟩
  case round =>
    obtain ⟨k, d, rs, hk, rfl, rfl, hrk, hd, Ax, cx, vs, O⟩ := hrel
    obtain ⟨h, hm, hn, hr, hid⟩ := HH.out
    have hbr := O.below
    obtain ⟨_, _, _, f3, _⟩ := KT.out wr hbr
    have OO := Lib.hid O
    have hbl := O.lt
    have hle3 := O.le
    obtain ⟨p0, p1⟩ := KR.out wr hbr
    by_cases hlt : k < n
    · have hkr : k < t.rows.length := by omega
      have hkI : (k : Int) < n := by omega
      rw [wiF_drop hkr] at hd
      obtain ⟨b, off, rfl, hrw⟩ := h.rowsAt (by omega)
      obtain ⟨A2, c2, r0, r1, rr⟩ := hrw wr (DW.out wr hbr) k hkr
      have hbb := World.block_lt_of_cell? _ ⟨b, off + k * 2, none⟩ (hrw w (Below.refl _ _) k hkr).choose_spec.choose_spec.1
      have r0w := ((DW.out wr hbr).cell (p := ⟨b, off + k * 2, none⟩) hbb).symm.trans r0
      have r1w := ((DW.out wr hbr).cell (p := ⟨b, off + k * 2 + 1, none⟩) hbb).symm.trans r1
      have rdw : ∀ W, Below W1.heap.size W1 W → Rd W B A2 (cv t.rows[k].data) ∧ B ≤ W.heap.size := fun W q => by
        obtain ⟨A', c', k0, k1, kr⟩ := hrw W (DW.out W q) k hkr
        have e := (((DW.out W q).cell (p := ⟨b, off + k * 2 + 1, none⟩) hbb).trans r1w).symm.trans k1
        simp only [Option.some.injEq, Value.slice.injEq] at e
        obtain ⟨rfl, _, _⟩ := e
        exact ⟨kr.inn.rd, kr.inn.le⟩
      have ct := fun W (q : Below W1.heap.size W1 W) (hl : b3 < W.heap.size) => (rtwin_any t.rows[k] A2 c2 W (rdw W q).1 (rdw W q).2 rr.inn.len).mono (R' := fun e w' => ∃ A5 c5, e = .returned (.agg #[.string t.rows[k].id, .slice A5 t.rows[k].data.length c5]) ∧ w'.ownsRow (b3 + 1) 47 5 (.slice A5 t.rows[k].data.length c5) t.rows[k].data.length (cv t.rows[k].data) ∧ Below W.heap.size W w') fun e w' hh => by
        obtain ⟨A5, c5, e1, o1, b1⟩ := hh
        exact ⟨A5, c5, e1, own_base o1 hl, b1⟩
      have hl := fun W => Ls.less_any r.id t.rows[k].id W hid (h.ids _ (List.getElem_mem hkr))
      obtain ⟨x, hx⟩ : ∃ x, t.rows[k] = x := ⟨_, rfl⟩
      rw [hx] at r0 r1 hd r0w r1w
      simp only [hx] at ct hl
      have kF : ∀ W, Below W1.heap.size W1 W → W.cell? ⟨w.heap.size, 3, none⟩ = some (.slice (some ⟨b, off, none⟩) n cr) ∧ W.cell? ⟨b, off + k * 2, none⟩ = some (.string x.id) ∧ W.cell? ⟨b, off + k * 2 + 1, none⟩ = some (.slice A2 x.data.length c2) := fun W q =>
        ⟨(KT.out W q).c3, ((DW.out W q).cell (p := ⟨b, off + k * 2, none⟩) hbb).trans r0w, ((DW.out W q).cell (p := ⟨b, off + k * 2 + 1, none⟩) hbb).trans r1w⟩
      have KF := Lib.hid kF
      have CT := Lib.hid ct
      obtain ⟨L, hL⟩ : ∃ L, slt r.id x.id = L := ⟨_, rfl⟩
      rw [hL] at hd
      simp only [hL] at hl
      clear h hm hn hr hid hrw rr hx ct kF O r0w r1w hbb hL rdw
      cases d with
      | true =>
        rw [if_neg (by simp)] at hd
        have HD := Lib.hid hd
        have hrk2 : rs.length ≤ k + 1 := by simpa using hrk
        clear hd hrk
        go_upto_block 1 with fail
        go_cut [6] (InCutD true W1 b3 t.name t.most t.us A3 m c3 (rs ++ [x]))
        case first =>
          go_upto_region 7 with fail
          go_cut [30] (Cut7 false W1 b3 t.name t.most t.us A3 m c3 rs Ax cx vs)
          case first =>
            first | go_quiet (fail) | fail
            go_wp2_with fail
            go_meet
            exact ⟨rfl, OO.out.step ((Below.refl _ _).drewN' _)⟩
          case rest =>
            obtain ⟨rfl, O2⟩ := hcut
            have hbr2 := O2.below
            have hbl2 := O2.lt
            have O2H := Lib.hid O2
            have g3 := O2.four.c3
            clear O2 f3 p0 p1 r0 r1
            obtain ⟨f3, r0, r1⟩ := KF.out wc hbr2
            go_upto_region 10 with fail
            refine wp_region_held_drew (S := fun W => W.cell? ⟨w.heap.size, 3, none⟩ = some (.slice (some ⟨b, off, none⟩) n cr) ∧ W.cell? ⟨b, off + k * 2, none⟩ = some (.string x.id) ∧ W.cell? ⟨b, off + k * 2 + 1, none⟩ = some (.slice A2 x.data.length c2)) (by kernel_rfl) (by exact KF.out _ (by repeat (first | assumption | exact Below.refl _ _ | refine Below.drew ?_ | refine Below.alloc ?_ (by first | assumption | exact Nat.le_refl _ | omega | (simp; done) | (simp; omega)) _ | refine Below.setCell ?_ (by first | assumption | exact Nat.le_refl _ | omega | (simp; done) | (simp; omega)) _))) (fun hHeld => ?_)
            refine wpAnyH_take (i := 0) (oi := _) (v := .pointer (some ⟨b3, 3, none⟩)) rfl (by kernel_rfl) (by kernel_rfl) (by kernel_rfl) (fun _ _ _ h => h) (Or.inl ⟨by rfl, fun W _ => rfl⟩) hHeld ?_
            try simp only [Act.put, List.getElem_toArray, List.getElem_cons_zero, List.setIfInBounds_toArray, List.set_cons_zero, List.set_cons_succ]
            refine wpAnyH_take (i := 2) (oi := _) (v := .pointer (some ⟨w.heap.size, 3, none⟩)) rfl (by kernel_rfl) (by kernel_rfl) (by kernel_rfl) (fun _ _ _ h => h) (Or.inl ⟨by rfl, fun W _ => rfl⟩) hHeld ?_
            try simp only [Act.put, List.getElem_toArray, List.getElem_cons_zero, List.getElem_cons_succ, List.setIfInBounds_toArray, List.set_cons_zero, List.set_cons_succ]
            refine wpAnyH_take (i := 3) (oi := _) (v := .slice (some ⟨b, off, none⟩) n cr) rfl (by kernel_rfl) (by kernel_rfl) (by kernel_rfl) (fun _ _ _ h => h) (Or.inl ⟨by rfl, by intro W hW; obtain ⟨q1, q2, q3⟩ := hW; go_simp⟩) hHeld ?_
            try simp only [Act.put, List.getElem_toArray, List.getElem_cons_zero, List.getElem_cons_succ, List.setIfInBounds_toArray, List.set_cons_zero, List.set_cons_succ]
            refine wpAnyH_take (i := 4) (oi := _) (v := .int .i64 k) rfl (by kernel_rfl) (by kernel_rfl) (by kernel_rfl) (fun _ _ _ h => h) (Or.inl ⟨by rfl, fun W _ => rfl⟩) hHeld ?_
            try simp only [Act.put, List.getElem_toArray, List.getElem_cons_zero, List.getElem_cons_succ, List.setIfInBounds_toArray, List.set_cons_zero, List.set_cons_succ]
            refine wpAnyH_take (i := 5) (oi := _) (v := .pointer (some ⟨b, off + k * 2, none⟩)) rfl (by kernel_rfl) (by kernel_rfl) (by kernel_rfl) (fun _ _ _ h => h) (Or.inl ⟨by rfl, by intro W hW; clear hW; go_simp⟩) hHeld ?_
            try simp only [Act.put, List.getElem_toArray, List.getElem_cons_zero, List.getElem_cons_succ, List.setIfInBounds_toArray, List.set_cons_zero, List.set_cons_succ]
            refine wpAnyH_take (i := 6) (oi := _) (v := .agg #[.string x.id, .slice A2 x.data.length c2]) rfl (by kernel_rfl) (by kernel_rfl) (by kernel_rfl) (fun _ _ _ h => h) (Or.inl ⟨by rfl, by intro W hW; obtain ⟨q1, q2, q3⟩ := hW; go_simp⟩) hHeld ?_
            try simp only [Act.put, List.getElem_toArray, List.getElem_cons_zero, List.getElem_cons_succ, List.setIfInBounds_toArray, List.set_cons_zero, List.set_cons_succ]
            refine wpAnyH_ready (rs := [1, 7]) (by kernel_rfl) (by simp) ?_
            refine AllReadyH.cons (o := _) rfl (fun K hK => ?_) (AllReadyH.cons (o := _) rfl (fun K hK => ?_) AllReadyH.nil)
            · skip
              clear hHeld
              go_simp
              refine hK.out _ _ (by exact KF.out _ (by repeat (first | assumption | exact Below.refl _ _ | refine Below.drew ?_ | refine Below.alloc ?_ (by first | assumption | exact Nat.le_refl _ | omega | (simp; done) | (simp; omega)) _ | refine Below.setCell ?_ (by first | assumption | exact Nat.le_refl _ | omega | (simp; done) | (simp; omega)) _))) (fun hHeld => ?_)
              clear hK K
              try simp only [Act.put, List.getElem_toArray, List.getElem_cons_zero, List.getElem_cons_succ, List.setIfInBounds_toArray, List.set_cons_zero, List.set_cons_succ]
              refine wpAnyH_ready (rs := [7]) (by kernel_rfl) (by simp) ?_
              refine AllReadyH.cons (o := _) rfl (fun K hK => ?_) AllReadyH.nil
              clear hHeld
              go_simp
              refine (CT.out _ ?hq ?hl).mono ?_
              case hq => exact (by repeat (first | assumption | exact Below.refl _ _ | refine Below.drew ?_))
              case hl => simpa using hbl2
              rintro e w7 ⟨A5, c5, rfl, ho5, hb7⟩
              have hq7 : Below wc.heap.size wc w7 := Below.trans (by repeat (first | assumption | exact Below.refl _ _ | refine Below.drew ?_)) (hb7.mono (by simp))
              have hl7 := hq7.size
              have O7 := O2H.out.step hq7
              have hb7 := O7.below
              have hb3l := O7.lt
              have q3 := O7.four.c3
              have HO7 := Lib.hid (And.intro O7 ho5)
              clear O7 ho5
              refine hK.out _ _ (by exact KF.out _ (by repeat (first | assumption | exact Below.refl _ _ | refine Below.drew ?_ | refine Below.alloc ?_ (by first | assumption | exact Nat.le_refl _ | omega | (simp; done) | (simp; omega)) _ | refine Below.setCell ?_ (by first | assumption | exact Nat.le_refl _ | omega | (simp; done) | (simp; omega)) _))) (fun hHeld => ?_)
              clear hK K
              try simp only [Act.put, List.getElem_toArray, List.getElem_cons_zero, List.getElem_cons_succ, List.setIfInBounds_toArray, List.set_cons_zero, List.set_cons_succ]
              refine wpAnyH_ready (rs := [8]) (by kernel_rfl) (by simp) ?_
              refine AllReadyH.cons (o := _) rfl (fun K hK => ?_) AllReadyH.nil
              clear hHeld
              go_simp
              refine hK.out _ _ (by exact KF.out _ (by repeat (first | assumption | exact Below.refl _ _ | refine Below.drew ?_ | refine Below.alloc ?_ (by first | assumption | exact Nat.le_refl _ | omega | (simp; done) | (simp; omega)) _ | refine Below.setCell ?_ (by first | assumption | exact Nat.le_refl _ | omega | (simp; done) | (simp; omega)) _))) (fun hHeld => ?_)
              clear hK K
              try simp only [Act.put, List.getElem_toArray, List.getElem_cons_zero, List.getElem_cons_succ, List.setIfInBounds_toArray, List.set_cons_zero, List.set_cons_succ]
              refine wpAnyH_ready (rs := [9]) (by kernel_rfl) (by simp) ?_
              refine AllReadyH.cons (o := _) rfl (fun K hK => ?_) AllReadyH.nil
              clear hHeld
              refine step_append_rdK (by rfl) _ _ _ (by rfl) (b3 + 1) 28 i0 (.agg #[.string ⟨#[]⟩, .slice none 0 0]) 2 40 Tryz.underlying23 hi hz0 hz1 hz2 (by rfl) (by decide) (.slice Ax rs.length cx) rs.length vs (by rfl) (HO7.out.1.own.alloc _) (B := w7.heap.size + 1) (some ⟨w7.heap.size, 0, none⟩) 1 1 [.string x.id, .slice A5 x.data.length c5] (by rfl) (rd_new w7 _ _ _ rfl) (by rfl) (rec_one _ _ _ _) (by unfold maxLen; omega) (by omega) (by simp; omega) ?_
              intro v9 w9 ho9 hg9 _
              obtain ⟨A9, c9, rfl, _, _⟩ := own_slice ho9
              have O8 := HO7.out.1.step ((Below.refl w7.heap.size w7).alloc (Nat.le_refl _) (.cells #[.string x.id, .slice A5 x.data.length c5] 28))
              have ON := O8.add (HO7.out.2.alloc _) ho9 hg9
              have f9 := O8.four.grown hg9 (by intro e; have := (O8.own.lt b3 e.symm).1; omega)
              have hb9 : Below W1.heap.size W1 w9 := O8.below.grown hg9 O8.below.size (fun k hk => by have := (O8.own.lt k hk).1; have := O8.le; omega)
              obtain ⟨_, _, _, s3, sf⟩ := f9
              have s4 := sf 3
              have HON := Lib.hid ON
              clear O8 ON sf
              refine hK.out _ _ (by exact KF.out _ (by repeat (first | assumption | exact Below.refl _ _ | refine Below.drew ?_ | refine Below.alloc ?_ (by first | assumption | exact Nat.le_refl _ | omega | (simp; done) | (simp; omega)) _ | refine Below.setCell ?_ (by first | assumption | exact Nat.le_refl _ | omega | (simp; done) | (simp; omega)) _))) (fun hHeld => ?_)
              clear hK K
              try simp only [Act.put, List.getElem_toArray, List.getElem_cons_zero, List.getElem_cons_succ, List.setIfInBounds_toArray, List.set_cons_zero, List.set_cons_succ]
              refine wpAnyH_take (i := 10) (oi := _) (v := .pointer (some ⟨b3, 3, none⟩)) rfl (by kernel_rfl) (by kernel_rfl) (by kernel_rfl) (fun _ _ _ h => h) (Or.inl ⟨by rfl, fun W _ => rfl⟩) hHeld ?_
              try simp only [Act.put, List.getElem_toArray, List.getElem_cons_zero, List.getElem_cons_succ, List.setIfInBounds_toArray, List.set_cons_zero, List.set_cons_succ]
              refine wpAnyH_ready (rs := [11]) (by kernel_rfl) (by simp) ?_
              refine AllReadyH.cons (o := _) rfl (fun K hK => ?_) AllReadyH.nil
              clear hHeld
              go_simp
              refine hK.out _ _ (by exact KF.out _ (by repeat (first | assumption | exact Below.refl _ _ | refine Below.drew ?_ | refine Below.alloc ?_ (by first | assumption | exact Nat.le_refl _ | omega | (simp; done) | (simp; omega)) _ | refine Below.setCell ?_ (by first | assumption | exact Nat.le_refl _ | omega | (simp; done) | (simp; omega)) _))) (fun hHeld => ?_)
              clear hK K
              try simp only [Act.put, List.getElem_toArray, List.getElem_cons_zero, List.getElem_cons_succ, List.setIfInBounds_toArray, List.set_cons_zero, List.set_cons_succ]
              refine wpAnyH_done (by kernel_rfl) ?_ _
              go_wp2_with fail
              go_meet
              exact ⟨rfl, A9, c9, _, HON.out⟩
            · skip
              clear hHeld
              go_simp
              refine (CT.out _ ?hq ?hl).mono ?_
              case hq => exact (by repeat (first | assumption | exact Below.refl _ _ | refine Below.drew ?_))
              case hl => simpa using hbl2
              rintro e w7 ⟨A5, c5, rfl, ho5, hb7⟩
              have hq7 : Below wc.heap.size wc w7 := Below.trans (by repeat (first | assumption | exact Below.refl _ _ | refine Below.drew ?_)) (hb7.mono (by simp))
              have hl7 := hq7.size
              have O7 := O2H.out.step hq7
              have hb7 := O7.below
              have hb3l := O7.lt
              have q3 := O7.four.c3
              have HO7 := Lib.hid (And.intro O7 ho5)
              clear O7 ho5
              refine hK.out _ _ (by exact KF.out _ (by repeat (first | assumption | exact Below.refl _ _ | refine Below.drew ?_ | refine Below.alloc ?_ (by first | assumption | exact Nat.le_refl _ | omega | (simp; done) | (simp; omega)) _ | refine Below.setCell ?_ (by first | assumption | exact Nat.le_refl _ | omega | (simp; done) | (simp; omega)) _))) (fun hHeld => ?_)
              clear hK K
              try simp only [Act.put, List.getElem_toArray, List.getElem_cons_zero, List.getElem_cons_succ, List.setIfInBounds_toArray, List.set_cons_zero, List.set_cons_succ]
              refine wpAnyH_ready (rs := [1, 8]) (by kernel_rfl) (by simp) ?_
              refine AllReadyH.cons (o := _) rfl (fun K hK => ?_) (AllReadyH.cons (o := _) rfl (fun K hK => ?_) AllReadyH.nil)
              · skip
                clear hHeld
                go_simp
                refine hK.out _ _ (by exact KF.out _ (by repeat (first | assumption | exact Below.refl _ _ | refine Below.drew ?_ | refine Below.alloc ?_ (by first | assumption | exact Nat.le_refl _ | omega | (simp; done) | (simp; omega)) _ | refine Below.setCell ?_ (by first | assumption | exact Nat.le_refl _ | omega | (simp; done) | (simp; omega)) _))) (fun hHeld => ?_)
                clear hK K
                try simp only [Act.put, List.getElem_toArray, List.getElem_cons_zero, List.getElem_cons_succ, List.setIfInBounds_toArray, List.set_cons_zero, List.set_cons_succ]
                refine wpAnyH_ready (rs := [8]) (by kernel_rfl) (by simp) ?_
                refine AllReadyH.cons (o := _) rfl (fun K hK => ?_) AllReadyH.nil
                clear hHeld
                go_simp
                refine hK.out _ _ (by exact KF.out _ (by repeat (first | assumption | exact Below.refl _ _ | refine Below.drew ?_ | refine Below.alloc ?_ (by first | assumption | exact Nat.le_refl _ | omega | (simp; done) | (simp; omega)) _ | refine Below.setCell ?_ (by first | assumption | exact Nat.le_refl _ | omega | (simp; done) | (simp; omega)) _))) (fun hHeld => ?_)
                clear hK K
                try simp only [Act.put, List.getElem_toArray, List.getElem_cons_zero, List.getElem_cons_succ, List.setIfInBounds_toArray, List.set_cons_zero, List.set_cons_succ]
                refine wpAnyH_ready (rs := [9]) (by kernel_rfl) (by simp) ?_
                refine AllReadyH.cons (o := _) rfl (fun K hK => ?_) AllReadyH.nil
                clear hHeld
                refine step_append_rdK (by rfl) _ _ _ (by rfl) (b3 + 1) 28 i0 (.agg #[.string ⟨#[]⟩, .slice none 0 0]) 2 40 Tryz.underlying23 hi hz0 hz1 hz2 (by rfl) (by decide) (.slice Ax rs.length cx) rs.length vs (by rfl) (HO7.out.1.own.alloc _) (B := w7.heap.size + 1) (some ⟨w7.heap.size, 0, none⟩) 1 1 [.string x.id, .slice A5 x.data.length c5] (by rfl) (rd_new w7 _ _ _ rfl) (by rfl) (rec_one _ _ _ _) (by unfold maxLen; omega) (by omega) (by simp; omega) ?_
                intro v9 w9 ho9 hg9 _
                obtain ⟨A9, c9, rfl, _, _⟩ := own_slice ho9
                have O8 := HO7.out.1.step ((Below.refl w7.heap.size w7).alloc (Nat.le_refl _) (.cells #[.string x.id, .slice A5 x.data.length c5] 28))
                have ON := O8.add (HO7.out.2.alloc _) ho9 hg9
                have f9 := O8.four.grown hg9 (by intro e; have := (O8.own.lt b3 e.symm).1; omega)
                have hb9 : Below W1.heap.size W1 w9 := O8.below.grown hg9 O8.below.size (fun k hk => by have := (O8.own.lt k hk).1; have := O8.le; omega)
                obtain ⟨_, _, _, s3, sf⟩ := f9
                have s4 := sf 3
                have HON := Lib.hid ON
                clear O8 ON sf
                refine hK.out _ _ (by exact KF.out _ (by repeat (first | assumption | exact Below.refl _ _ | refine Below.drew ?_ | refine Below.alloc ?_ (by first | assumption | exact Nat.le_refl _ | omega | (simp; done) | (simp; omega)) _ | refine Below.setCell ?_ (by first | assumption | exact Nat.le_refl _ | omega | (simp; done) | (simp; omega)) _))) (fun hHeld => ?_)
                clear hK K
                try simp only [Act.put, List.getElem_toArray, List.getElem_cons_zero, List.getElem_cons_succ, List.setIfInBounds_toArray, List.set_cons_zero, List.set_cons_succ]
                refine wpAnyH_take (i := 10) (oi := _) (v := .pointer (some ⟨b3, 3, none⟩)) rfl (by kernel_rfl) (by kernel_rfl) (by kernel_rfl) (fun _ _ _ h => h) (Or.inl ⟨by rfl, fun W _ => rfl⟩) hHeld ?_
                try simp only [Act.put, List.getElem_toArray, List.getElem_cons_zero, List.getElem_cons_succ, List.setIfInBounds_toArray, List.set_cons_zero, List.set_cons_succ]
                refine wpAnyH_ready (rs := [11]) (by kernel_rfl) (by simp) ?_
                refine AllReadyH.cons (o := _) rfl (fun K hK => ?_) AllReadyH.nil
                clear hHeld
                go_simp
                refine hK.out _ _ (by exact KF.out _ (by repeat (first | assumption | exact Below.refl _ _ | refine Below.drew ?_ | refine Below.alloc ?_ (by first | assumption | exact Nat.le_refl _ | omega | (simp; done) | (simp; omega)) _ | refine Below.setCell ?_ (by first | assumption | exact Nat.le_refl _ | omega | (simp; done) | (simp; omega)) _))) (fun hHeld => ?_)
                clear hK K
                try simp only [Act.put, List.getElem_toArray, List.getElem_cons_zero, List.getElem_cons_succ, List.setIfInBounds_toArray, List.set_cons_zero, List.set_cons_succ]
                refine wpAnyH_done (by kernel_rfl) ?_ _
                go_wp2_with fail
                go_meet
                exact ⟨rfl, A9, c9, _, HON.out⟩
              · skip
                clear hHeld
                go_simp
                refine hK.out _ _ (by exact KF.out _ (by repeat (first | assumption | exact Below.refl _ _ | refine Below.drew ?_ | refine Below.alloc ?_ (by first | assumption | exact Nat.le_refl _ | omega | (simp; done) | (simp; omega)) _ | refine Below.setCell ?_ (by first | assumption | exact Nat.le_refl _ | omega | (simp; done) | (simp; omega)) _))) (fun hHeld => ?_)
                clear hK K
                try simp only [Act.put, List.getElem_toArray, List.getElem_cons_zero, List.getElem_cons_succ, List.setIfInBounds_toArray, List.set_cons_zero, List.set_cons_succ]
                refine wpAnyH_ready (rs := [1]) (by kernel_rfl) (by simp) ?_
                refine AllReadyH.cons (o := _) rfl (fun K hK => ?_) AllReadyH.nil
                clear hHeld
                go_simp
                refine hK.out _ _ (by exact KF.out _ (by repeat (first | assumption | exact Below.refl _ _ | refine Below.drew ?_ | refine Below.alloc ?_ (by first | assumption | exact Nat.le_refl _ | omega | (simp; done) | (simp; omega)) _ | refine Below.setCell ?_ (by first | assumption | exact Nat.le_refl _ | omega | (simp; done) | (simp; omega)) _))) (fun hHeld => ?_)
                clear hK K
                try simp only [Act.put, List.getElem_toArray, List.getElem_cons_zero, List.getElem_cons_succ, List.setIfInBounds_toArray, List.set_cons_zero, List.set_cons_succ]
                refine wpAnyH_ready (rs := [9]) (by kernel_rfl) (by simp) ?_
                refine AllReadyH.cons (o := _) rfl (fun K hK => ?_) AllReadyH.nil
                clear hHeld
                refine step_append_rdK (by rfl) _ _ _ (by rfl) (b3 + 1) 28 i0 (.agg #[.string ⟨#[]⟩, .slice none 0 0]) 2 40 Tryz.underlying23 hi hz0 hz1 hz2 (by rfl) (by decide) (.slice Ax rs.length cx) rs.length vs (by rfl) (HO7.out.1.own.alloc _) (B := w7.heap.size + 1) (some ⟨w7.heap.size, 0, none⟩) 1 1 [.string x.id, .slice A5 x.data.length c5] (by rfl) (rd_new w7 _ _ _ rfl) (by rfl) (rec_one _ _ _ _) (by unfold maxLen; omega) (by omega) (by simp; omega) ?_
                intro v9 w9 ho9 hg9 _
                obtain ⟨A9, c9, rfl, _, _⟩ := own_slice ho9
                have O8 := HO7.out.1.step ((Below.refl w7.heap.size w7).alloc (Nat.le_refl _) (.cells #[.string x.id, .slice A5 x.data.length c5] 28))
                have ON := O8.add (HO7.out.2.alloc _) ho9 hg9
                have f9 := O8.four.grown hg9 (by intro e; have := (O8.own.lt b3 e.symm).1; omega)
                have hb9 : Below W1.heap.size W1 w9 := O8.below.grown hg9 O8.below.size (fun k hk => by have := (O8.own.lt k hk).1; have := O8.le; omega)
                obtain ⟨_, _, _, s3, sf⟩ := f9
                have s4 := sf 3
                have HON := Lib.hid ON
                clear O8 ON sf
                refine hK.out _ _ (by exact KF.out _ (by repeat (first | assumption | exact Below.refl _ _ | refine Below.drew ?_ | refine Below.alloc ?_ (by first | assumption | exact Nat.le_refl _ | omega | (simp; done) | (simp; omega)) _ | refine Below.setCell ?_ (by first | assumption | exact Nat.le_refl _ | omega | (simp; done) | (simp; omega)) _))) (fun hHeld => ?_)
                clear hK K
                try simp only [Act.put, List.getElem_toArray, List.getElem_cons_zero, List.getElem_cons_succ, List.setIfInBounds_toArray, List.set_cons_zero, List.set_cons_succ]
                refine wpAnyH_take (i := 10) (oi := _) (v := .pointer (some ⟨b3, 3, none⟩)) rfl (by kernel_rfl) (by kernel_rfl) (by kernel_rfl) (fun _ _ _ h => h) (Or.inl ⟨by rfl, fun W _ => rfl⟩) hHeld ?_
                try simp only [Act.put, List.getElem_toArray, List.getElem_cons_zero, List.getElem_cons_succ, List.setIfInBounds_toArray, List.set_cons_zero, List.set_cons_succ]
                refine wpAnyH_ready (rs := [11]) (by kernel_rfl) (by simp) ?_
                refine AllReadyH.cons (o := _) rfl (fun K hK => ?_) AllReadyH.nil
                clear hHeld
                go_simp
                refine hK.out _ _ (by exact KF.out _ (by repeat (first | assumption | exact Below.refl _ _ | refine Below.drew ?_ | refine Below.alloc ?_ (by first | assumption | exact Nat.le_refl _ | omega | (simp; done) | (simp; omega)) _ | refine Below.setCell ?_ (by first | assumption | exact Nat.le_refl _ | omega | (simp; done) | (simp; omega)) _))) (fun hHeld => ?_)
                clear hK K
                try simp only [Act.put, List.getElem_toArray, List.getElem_cons_zero, List.getElem_cons_succ, List.setIfInBounds_toArray, List.set_cons_zero, List.set_cons_succ]
                refine wpAnyH_done (by kernel_rfl) ?_ _
                go_wp2_with fail
                go_meet
                exact ⟨rfl, A9, c9, _, HON.out⟩
        case rest =>
          obtain ⟨rfl, A9, c9, vs9, O9⟩ := hcut
          go_wp2
          go_roundw
          case rel => exact ⟨k + 1, true, rs ++ [x], hlt, by go_num, rfl, by simp; omega, by rw [List.append_assoc]; exact HD.out, A9, c9, vs9, O9⟩
          case measure => simp [intOf]; omega
      | false =>
        have hrk2 : rs.length ≤ k := by simpa using hrk
        clear hrk
        cases L with
        | false =>
          rw [if_neg (by simp)] at hd
          have HD := Lib.hid hd
          clear hd
          go_upto_block 1 with fail
          go_cut [6] (InCutD false W1 b3 t.name t.most t.us A3 m c3 (rs ++ [x]))
          case first =>
            go_upto_region 7 with fail
            go_cut [30] (Cut7 false W1 b3 t.name t.most t.us A3 m c3 rs Ax cx vs)
            case first =>
              go_quiet ((go_at_call 52; exact Calls.quiet_of (hl _)))
              go_wp2_with fail
              go_meet
              exact ⟨rfl, OO.out.step ((Below.refl _ _).drewN' _)⟩
            case rest =>
              obtain ⟨rfl, O2⟩ := hcut
              have hbr2 := O2.below
              have hbl2 := O2.lt
              have O2H := Lib.hid O2
              have g3 := O2.four.c3
              clear O2 f3 p0 p1 r0 r1
              obtain ⟨f3, r0, r1⟩ := KF.out wc hbr2
              go_upto_region 10 with fail
              refine wp_region_held_drew (S := fun W => W.cell? ⟨w.heap.size, 3, none⟩ = some (.slice (some ⟨b, off, none⟩) n cr) ∧ W.cell? ⟨b, off + k * 2, none⟩ = some (.string x.id) ∧ W.cell? ⟨b, off + k * 2 + 1, none⟩ = some (.slice A2 x.data.length c2)) (by kernel_rfl) (by exact KF.out _ (by repeat (first | assumption | exact Below.refl _ _ | refine Below.drew ?_ | refine Below.alloc ?_ (by first | assumption | exact Nat.le_refl _ | omega | (simp; done) | (simp; omega)) _ | refine Below.setCell ?_ (by first | assumption | exact Nat.le_refl _ | omega | (simp; done) | (simp; omega)) _))) (fun hHeld => ?_)
              refine wpAnyH_take (i := 0) (oi := _) (v := .pointer (some ⟨b3, 3, none⟩)) rfl (by kernel_rfl) (by kernel_rfl) (by kernel_rfl) (fun _ _ _ h => h) (Or.inl ⟨by rfl, fun W _ => rfl⟩) hHeld ?_
              try simp only [Act.put, List.getElem_toArray, List.getElem_cons_zero, List.setIfInBounds_toArray, List.set_cons_zero, List.set_cons_succ]
              refine wpAnyH_take (i := 2) (oi := _) (v := .pointer (some ⟨w.heap.size, 3, none⟩)) rfl (by kernel_rfl) (by kernel_rfl) (by kernel_rfl) (fun _ _ _ h => h) (Or.inl ⟨by rfl, fun W _ => rfl⟩) hHeld ?_
              try simp only [Act.put, List.getElem_toArray, List.getElem_cons_zero, List.getElem_cons_succ, List.setIfInBounds_toArray, List.set_cons_zero, List.set_cons_succ]
              refine wpAnyH_take (i := 3) (oi := _) (v := .slice (some ⟨b, off, none⟩) n cr) rfl (by kernel_rfl) (by kernel_rfl) (by kernel_rfl) (fun _ _ _ h => h) (Or.inl ⟨by rfl, by intro W hW; obtain ⟨q1, q2, q3⟩ := hW; go_simp⟩) hHeld ?_
              try simp only [Act.put, List.getElem_toArray, List.getElem_cons_zero, List.getElem_cons_succ, List.setIfInBounds_toArray, List.set_cons_zero, List.set_cons_succ]
              refine wpAnyH_take (i := 4) (oi := _) (v := .int .i64 k) rfl (by kernel_rfl) (by kernel_rfl) (by kernel_rfl) (fun _ _ _ h => h) (Or.inl ⟨by rfl, fun W _ => rfl⟩) hHeld ?_
              try simp only [Act.put, List.getElem_toArray, List.getElem_cons_zero, List.getElem_cons_succ, List.setIfInBounds_toArray, List.set_cons_zero, List.set_cons_succ]
              refine wpAnyH_take (i := 5) (oi := _) (v := .pointer (some ⟨b, off + k * 2, none⟩)) rfl (by kernel_rfl) (by kernel_rfl) (by kernel_rfl) (fun _ _ _ h => h) (Or.inl ⟨by rfl, by intro W hW; clear hW; go_simp⟩) hHeld ?_
              try simp only [Act.put, List.getElem_toArray, List.getElem_cons_zero, List.getElem_cons_succ, List.setIfInBounds_toArray, List.set_cons_zero, List.set_cons_succ]
              refine wpAnyH_take (i := 6) (oi := _) (v := .agg #[.string x.id, .slice A2 x.data.length c2]) rfl (by kernel_rfl) (by kernel_rfl) (by kernel_rfl) (fun _ _ _ h => h) (Or.inl ⟨by rfl, by intro W hW; obtain ⟨q1, q2, q3⟩ := hW; go_simp⟩) hHeld ?_
              try simp only [Act.put, List.getElem_toArray, List.getElem_cons_zero, List.getElem_cons_succ, List.setIfInBounds_toArray, List.set_cons_zero, List.set_cons_succ]
              refine wpAnyH_ready (rs := [1, 7]) (by kernel_rfl) (by simp) ?_
              refine AllReadyH.cons (o := _) rfl (fun K hK => ?_) (AllReadyH.cons (o := _) rfl (fun K hK => ?_) AllReadyH.nil)
              · skip
                clear hHeld
                go_simp
                refine hK.out _ _ (by exact KF.out _ (by repeat (first | assumption | exact Below.refl _ _ | refine Below.drew ?_ | refine Below.alloc ?_ (by first | assumption | exact Nat.le_refl _ | omega | (simp; done) | (simp; omega)) _ | refine Below.setCell ?_ (by first | assumption | exact Nat.le_refl _ | omega | (simp; done) | (simp; omega)) _))) (fun hHeld => ?_)
                clear hK K
                try simp only [Act.put, List.getElem_toArray, List.getElem_cons_zero, List.getElem_cons_succ, List.setIfInBounds_toArray, List.set_cons_zero, List.set_cons_succ]
                refine wpAnyH_ready (rs := [7]) (by kernel_rfl) (by simp) ?_
                refine AllReadyH.cons (o := _) rfl (fun K hK => ?_) AllReadyH.nil
                clear hHeld
                go_simp
                refine (CT.out _ ?hq ?hl).mono ?_
                case hq => exact (by repeat (first | assumption | exact Below.refl _ _ | refine Below.drew ?_))
                case hl => simpa using hbl2
                rintro e w7 ⟨A5, c5, rfl, ho5, hb7⟩
                have hq7 : Below wc.heap.size wc w7 := Below.trans (by repeat (first | assumption | exact Below.refl _ _ | refine Below.drew ?_)) (hb7.mono (by simp))
                have hl7 := hq7.size
                have O7 := O2H.out.step hq7
                have hb7 := O7.below
                have hb3l := O7.lt
                have q3 := O7.four.c3
                have HO7 := Lib.hid (And.intro O7 ho5)
                clear O7 ho5
                refine hK.out _ _ (by exact KF.out _ (by repeat (first | assumption | exact Below.refl _ _ | refine Below.drew ?_ | refine Below.alloc ?_ (by first | assumption | exact Nat.le_refl _ | omega | (simp; done) | (simp; omega)) _ | refine Below.setCell ?_ (by first | assumption | exact Nat.le_refl _ | omega | (simp; done) | (simp; omega)) _))) (fun hHeld => ?_)
                clear hK K
                try simp only [Act.put, List.getElem_toArray, List.getElem_cons_zero, List.getElem_cons_succ, List.setIfInBounds_toArray, List.set_cons_zero, List.set_cons_succ]
                refine wpAnyH_ready (rs := [8]) (by kernel_rfl) (by simp) ?_
                refine AllReadyH.cons (o := _) rfl (fun K hK => ?_) AllReadyH.nil
                clear hHeld
                go_simp
                refine hK.out _ _ (by exact KF.out _ (by repeat (first | assumption | exact Below.refl _ _ | refine Below.drew ?_ | refine Below.alloc ?_ (by first | assumption | exact Nat.le_refl _ | omega | (simp; done) | (simp; omega)) _ | refine Below.setCell ?_ (by first | assumption | exact Nat.le_refl _ | omega | (simp; done) | (simp; omega)) _))) (fun hHeld => ?_)
                clear hK K
                try simp only [Act.put, List.getElem_toArray, List.getElem_cons_zero, List.getElem_cons_succ, List.setIfInBounds_toArray, List.set_cons_zero, List.set_cons_succ]
                refine wpAnyH_ready (rs := [9]) (by kernel_rfl) (by simp) ?_
                refine AllReadyH.cons (o := _) rfl (fun K hK => ?_) AllReadyH.nil
                clear hHeld
                refine step_append_rdK (by rfl) _ _ _ (by rfl) (b3 + 1) 28 i0 (.agg #[.string ⟨#[]⟩, .slice none 0 0]) 2 40 Tryz.underlying23 hi hz0 hz1 hz2 (by rfl) (by decide) (.slice Ax rs.length cx) rs.length vs (by rfl) (HO7.out.1.own.alloc _) (B := w7.heap.size + 1) (some ⟨w7.heap.size, 0, none⟩) 1 1 [.string x.id, .slice A5 x.data.length c5] (by rfl) (rd_new w7 _ _ _ rfl) (by rfl) (rec_one _ _ _ _) (by unfold maxLen; omega) (by omega) (by simp; omega) ?_
                intro v9 w9 ho9 hg9 _
                obtain ⟨A9, c9, rfl, _, _⟩ := own_slice ho9
                have O8 := HO7.out.1.step ((Below.refl w7.heap.size w7).alloc (Nat.le_refl _) (.cells #[.string x.id, .slice A5 x.data.length c5] 28))
                have ON := O8.add (HO7.out.2.alloc _) ho9 hg9
                have f9 := O8.four.grown hg9 (by intro e; have := (O8.own.lt b3 e.symm).1; omega)
                have hb9 : Below W1.heap.size W1 w9 := O8.below.grown hg9 O8.below.size (fun k hk => by have := (O8.own.lt k hk).1; have := O8.le; omega)
                obtain ⟨_, _, _, s3, sf⟩ := f9
                have s4 := sf 3
                have HON := Lib.hid ON
                clear O8 ON sf
                refine hK.out _ _ (by exact KF.out _ (by repeat (first | assumption | exact Below.refl _ _ | refine Below.drew ?_ | refine Below.alloc ?_ (by first | assumption | exact Nat.le_refl _ | omega | (simp; done) | (simp; omega)) _ | refine Below.setCell ?_ (by first | assumption | exact Nat.le_refl _ | omega | (simp; done) | (simp; omega)) _))) (fun hHeld => ?_)
                clear hK K
                try simp only [Act.put, List.getElem_toArray, List.getElem_cons_zero, List.getElem_cons_succ, List.setIfInBounds_toArray, List.set_cons_zero, List.set_cons_succ]
                refine wpAnyH_take (i := 10) (oi := _) (v := .pointer (some ⟨b3, 3, none⟩)) rfl (by kernel_rfl) (by kernel_rfl) (by kernel_rfl) (fun _ _ _ h => h) (Or.inl ⟨by rfl, fun W _ => rfl⟩) hHeld ?_
                try simp only [Act.put, List.getElem_toArray, List.getElem_cons_zero, List.getElem_cons_succ, List.setIfInBounds_toArray, List.set_cons_zero, List.set_cons_succ]
                refine wpAnyH_ready (rs := [11]) (by kernel_rfl) (by simp) ?_
                refine AllReadyH.cons (o := _) rfl (fun K hK => ?_) AllReadyH.nil
                clear hHeld
                go_simp
                refine hK.out _ _ (by exact KF.out _ (by repeat (first | assumption | exact Below.refl _ _ | refine Below.drew ?_ | refine Below.alloc ?_ (by first | assumption | exact Nat.le_refl _ | omega | (simp; done) | (simp; omega)) _ | refine Below.setCell ?_ (by first | assumption | exact Nat.le_refl _ | omega | (simp; done) | (simp; omega)) _))) (fun hHeld => ?_)
                clear hK K
                try simp only [Act.put, List.getElem_toArray, List.getElem_cons_zero, List.getElem_cons_succ, List.setIfInBounds_toArray, List.set_cons_zero, List.set_cons_succ]
                refine wpAnyH_done (by kernel_rfl) ?_ _
                go_wp2_with fail
                go_meet
                exact ⟨rfl, A9, c9, _, HON.out⟩
              · skip
                clear hHeld
                go_simp
                refine (CT.out _ ?hq ?hl).mono ?_
                case hq => exact (by repeat (first | assumption | exact Below.refl _ _ | refine Below.drew ?_))
                case hl => simpa using hbl2
                rintro e w7 ⟨A5, c5, rfl, ho5, hb7⟩
                have hq7 : Below wc.heap.size wc w7 := Below.trans (by repeat (first | assumption | exact Below.refl _ _ | refine Below.drew ?_)) (hb7.mono (by simp))
                have hl7 := hq7.size
                have O7 := O2H.out.step hq7
                have hb7 := O7.below
                have hb3l := O7.lt
                have q3 := O7.four.c3
                have HO7 := Lib.hid (And.intro O7 ho5)
                clear O7 ho5
                refine hK.out _ _ (by exact KF.out _ (by repeat (first | assumption | exact Below.refl _ _ | refine Below.drew ?_ | refine Below.alloc ?_ (by first | assumption | exact Nat.le_refl _ | omega | (simp; done) | (simp; omega)) _ | refine Below.setCell ?_ (by first | assumption | exact Nat.le_refl _ | omega | (simp; done) | (simp; omega)) _))) (fun hHeld => ?_)
                clear hK K
                try simp only [Act.put, List.getElem_toArray, List.getElem_cons_zero, List.getElem_cons_succ, List.setIfInBounds_toArray, List.set_cons_zero, List.set_cons_succ]
                refine wpAnyH_ready (rs := [1, 8]) (by kernel_rfl) (by simp) ?_
                refine AllReadyH.cons (o := _) rfl (fun K hK => ?_) (AllReadyH.cons (o := _) rfl (fun K hK => ?_) AllReadyH.nil)
                · skip
                  clear hHeld
                  go_simp
                  refine hK.out _ _ (by exact KF.out _ (by repeat (first | assumption | exact Below.refl _ _ | refine Below.drew ?_ | refine Below.alloc ?_ (by first | assumption | exact Nat.le_refl _ | omega | (simp; done) | (simp; omega)) _ | refine Below.setCell ?_ (by first | assumption | exact Nat.le_refl _ | omega | (simp; done) | (simp; omega)) _))) (fun hHeld => ?_)
                  clear hK K
                  try simp only [Act.put, List.getElem_toArray, List.getElem_cons_zero, List.getElem_cons_succ, List.setIfInBounds_toArray, List.set_cons_zero, List.set_cons_succ]
                  refine wpAnyH_ready (rs := [8]) (by kernel_rfl) (by simp) ?_
                  refine AllReadyH.cons (o := _) rfl (fun K hK => ?_) AllReadyH.nil
                  clear hHeld
                  go_simp
                  refine hK.out _ _ (by exact KF.out _ (by repeat (first | assumption | exact Below.refl _ _ | refine Below.drew ?_ | refine Below.alloc ?_ (by first | assumption | exact Nat.le_refl _ | omega | (simp; done) | (simp; omega)) _ | refine Below.setCell ?_ (by first | assumption | exact Nat.le_refl _ | omega | (simp; done) | (simp; omega)) _))) (fun hHeld => ?_)
                  clear hK K
                  try simp only [Act.put, List.getElem_toArray, List.getElem_cons_zero, List.getElem_cons_succ, List.setIfInBounds_toArray, List.set_cons_zero, List.set_cons_succ]
                  refine wpAnyH_ready (rs := [9]) (by kernel_rfl) (by simp) ?_
                  refine AllReadyH.cons (o := _) rfl (fun K hK => ?_) AllReadyH.nil
                  clear hHeld
                  refine step_append_rdK (by rfl) _ _ _ (by rfl) (b3 + 1) 28 i0 (.agg #[.string ⟨#[]⟩, .slice none 0 0]) 2 40 Tryz.underlying23 hi hz0 hz1 hz2 (by rfl) (by decide) (.slice Ax rs.length cx) rs.length vs (by rfl) (HO7.out.1.own.alloc _) (B := w7.heap.size + 1) (some ⟨w7.heap.size, 0, none⟩) 1 1 [.string x.id, .slice A5 x.data.length c5] (by rfl) (rd_new w7 _ _ _ rfl) (by rfl) (rec_one _ _ _ _) (by unfold maxLen; omega) (by omega) (by simp; omega) ?_
                  intro v9 w9 ho9 hg9 _
                  obtain ⟨A9, c9, rfl, _, _⟩ := own_slice ho9
                  have O8 := HO7.out.1.step ((Below.refl w7.heap.size w7).alloc (Nat.le_refl _) (.cells #[.string x.id, .slice A5 x.data.length c5] 28))
                  have ON := O8.add (HO7.out.2.alloc _) ho9 hg9
                  have f9 := O8.four.grown hg9 (by intro e; have := (O8.own.lt b3 e.symm).1; omega)
                  have hb9 : Below W1.heap.size W1 w9 := O8.below.grown hg9 O8.below.size (fun k hk => by have := (O8.own.lt k hk).1; have := O8.le; omega)
                  obtain ⟨_, _, _, s3, sf⟩ := f9
                  have s4 := sf 3
                  have HON := Lib.hid ON
                  clear O8 ON sf
                  refine hK.out _ _ (by exact KF.out _ (by repeat (first | assumption | exact Below.refl _ _ | refine Below.drew ?_ | refine Below.alloc ?_ (by first | assumption | exact Nat.le_refl _ | omega | (simp; done) | (simp; omega)) _ | refine Below.setCell ?_ (by first | assumption | exact Nat.le_refl _ | omega | (simp; done) | (simp; omega)) _))) (fun hHeld => ?_)
                  clear hK K
                  try simp only [Act.put, List.getElem_toArray, List.getElem_cons_zero, List.getElem_cons_succ, List.setIfInBounds_toArray, List.set_cons_zero, List.set_cons_succ]
                  refine wpAnyH_take (i := 10) (oi := _) (v := .pointer (some ⟨b3, 3, none⟩)) rfl (by kernel_rfl) (by kernel_rfl) (by kernel_rfl) (fun _ _ _ h => h) (Or.inl ⟨by rfl, fun W _ => rfl⟩) hHeld ?_
                  try simp only [Act.put, List.getElem_toArray, List.getElem_cons_zero, List.getElem_cons_succ, List.setIfInBounds_toArray, List.set_cons_zero, List.set_cons_succ]
                  refine wpAnyH_ready (rs := [11]) (by kernel_rfl) (by simp) ?_
                  refine AllReadyH.cons (o := _) rfl (fun K hK => ?_) AllReadyH.nil
                  clear hHeld
                  go_simp
                  refine hK.out _ _ (by exact KF.out _ (by repeat (first | assumption | exact Below.refl _ _ | refine Below.drew ?_ | refine Below.alloc ?_ (by first | assumption | exact Nat.le_refl _ | omega | (simp; done) | (simp; omega)) _ | refine Below.setCell ?_ (by first | assumption | exact Nat.le_refl _ | omega | (simp; done) | (simp; omega)) _))) (fun hHeld => ?_)
                  clear hK K
                  try simp only [Act.put, List.getElem_toArray, List.getElem_cons_zero, List.getElem_cons_succ, List.setIfInBounds_toArray, List.set_cons_zero, List.set_cons_succ]
                  refine wpAnyH_done (by kernel_rfl) ?_ _
                  go_wp2_with fail
                  go_meet
                  exact ⟨rfl, A9, c9, _, HON.out⟩
                · skip
                  clear hHeld
                  go_simp
                  refine hK.out _ _ (by exact KF.out _ (by repeat (first | assumption | exact Below.refl _ _ | refine Below.drew ?_ | refine Below.alloc ?_ (by first | assumption | exact Nat.le_refl _ | omega | (simp; done) | (simp; omega)) _ | refine Below.setCell ?_ (by first | assumption | exact Nat.le_refl _ | omega | (simp; done) | (simp; omega)) _))) (fun hHeld => ?_)
                  clear hK K
                  try simp only [Act.put, List.getElem_toArray, List.getElem_cons_zero, List.getElem_cons_succ, List.setIfInBounds_toArray, List.set_cons_zero, List.set_cons_succ]
                  refine wpAnyH_ready (rs := [1]) (by kernel_rfl) (by simp) ?_
                  refine AllReadyH.cons (o := _) rfl (fun K hK => ?_) AllReadyH.nil
                  clear hHeld
                  go_simp
                  refine hK.out _ _ (by exact KF.out _ (by repeat (first | assumption | exact Below.refl _ _ | refine Below.drew ?_ | refine Below.alloc ?_ (by first | assumption | exact Nat.le_refl _ | omega | (simp; done) | (simp; omega)) _ | refine Below.setCell ?_ (by first | assumption | exact Nat.le_refl _ | omega | (simp; done) | (simp; omega)) _))) (fun hHeld => ?_)
                  clear hK K
                  try simp only [Act.put, List.getElem_toArray, List.getElem_cons_zero, List.getElem_cons_succ, List.setIfInBounds_toArray, List.set_cons_zero, List.set_cons_succ]
                  refine wpAnyH_ready (rs := [9]) (by kernel_rfl) (by simp) ?_
                  refine AllReadyH.cons (o := _) rfl (fun K hK => ?_) AllReadyH.nil
                  clear hHeld
                  refine step_append_rdK (by rfl) _ _ _ (by rfl) (b3 + 1) 28 i0 (.agg #[.string ⟨#[]⟩, .slice none 0 0]) 2 40 Tryz.underlying23 hi hz0 hz1 hz2 (by rfl) (by decide) (.slice Ax rs.length cx) rs.length vs (by rfl) (HO7.out.1.own.alloc _) (B := w7.heap.size + 1) (some ⟨w7.heap.size, 0, none⟩) 1 1 [.string x.id, .slice A5 x.data.length c5] (by rfl) (rd_new w7 _ _ _ rfl) (by rfl) (rec_one _ _ _ _) (by unfold maxLen; omega) (by omega) (by simp; omega) ?_
                  intro v9 w9 ho9 hg9 _
                  obtain ⟨A9, c9, rfl, _, _⟩ := own_slice ho9
                  have O8 := HO7.out.1.step ((Below.refl w7.heap.size w7).alloc (Nat.le_refl _) (.cells #[.string x.id, .slice A5 x.data.length c5] 28))
                  have ON := O8.add (HO7.out.2.alloc _) ho9 hg9
                  have f9 := O8.four.grown hg9 (by intro e; have := (O8.own.lt b3 e.symm).1; omega)
                  have hb9 : Below W1.heap.size W1 w9 := O8.below.grown hg9 O8.below.size (fun k hk => by have := (O8.own.lt k hk).1; have := O8.le; omega)
                  obtain ⟨_, _, _, s3, sf⟩ := f9
                  have s4 := sf 3
                  have HON := Lib.hid ON
                  clear O8 ON sf
                  refine hK.out _ _ (by exact KF.out _ (by repeat (first | assumption | exact Below.refl _ _ | refine Below.drew ?_ | refine Below.alloc ?_ (by first | assumption | exact Nat.le_refl _ | omega | (simp; done) | (simp; omega)) _ | refine Below.setCell ?_ (by first | assumption | exact Nat.le_refl _ | omega | (simp; done) | (simp; omega)) _))) (fun hHeld => ?_)
                  clear hK K
                  try simp only [Act.put, List.getElem_toArray, List.getElem_cons_zero, List.getElem_cons_succ, List.setIfInBounds_toArray, List.set_cons_zero, List.set_cons_succ]
                  refine wpAnyH_take (i := 10) (oi := _) (v := .pointer (some ⟨b3, 3, none⟩)) rfl (by kernel_rfl) (by kernel_rfl) (by kernel_rfl) (fun _ _ _ h => h) (Or.inl ⟨by rfl, fun W _ => rfl⟩) hHeld ?_
                  try simp only [Act.put, List.getElem_toArray, List.getElem_cons_zero, List.getElem_cons_succ, List.setIfInBounds_toArray, List.set_cons_zero, List.set_cons_succ]
                  refine wpAnyH_ready (rs := [11]) (by kernel_rfl) (by simp) ?_
                  refine AllReadyH.cons (o := _) rfl (fun K hK => ?_) AllReadyH.nil
                  clear hHeld
                  go_simp
                  refine hK.out _ _ (by exact KF.out _ (by repeat (first | assumption | exact Below.refl _ _ | refine Below.drew ?_ | refine Below.alloc ?_ (by first | assumption | exact Nat.le_refl _ | omega | (simp; done) | (simp; omega)) _ | refine Below.setCell ?_ (by first | assumption | exact Nat.le_refl _ | omega | (simp; done) | (simp; omega)) _))) (fun hHeld => ?_)
                  clear hK K
                  try simp only [Act.put, List.getElem_toArray, List.getElem_cons_zero, List.getElem_cons_succ, List.setIfInBounds_toArray, List.set_cons_zero, List.set_cons_succ]
                  refine wpAnyH_done (by kernel_rfl) ?_ _
                  go_wp2_with fail
                  go_meet
                  exact ⟨rfl, A9, c9, _, HON.out⟩
          case rest =>
            obtain ⟨rfl, A9, c9, vs9, O9⟩ := hcut
            go_wp2
            go_roundw
            case rel => exact ⟨k + 1, false, rs ++ [x], hlt, by go_num, rfl, by simp; omega, by rw [List.append_assoc]; exact HD.out, A9, c9, vs9, O9⟩
            case measure => simp [intOf]; omega
        | true =>
          rw [if_pos (by rfl)] at hd
          have HD := Lib.hid hd
          clear hd
          go_upto_block 1 with fail
          go_cut [6] (InCutD true W1 b3 t.name t.most t.us A3 m c3 (rs ++ [r] ++ [x]))
          case first =>
            go_upto_region 7 with fail
            go_cut [30] (Cut7 true W1 b3 t.name t.most t.us A3 m c3 rs Ax cx vs)
            case first =>
              go_quiet ((go_at_call 52; exact Calls.quiet_of (hl _)))
              go_wp2_with fail
              go_meet
              exact ⟨rfl, OO.out.step ((Below.refl _ _).drewN' _)⟩
            case rest =>
              obtain ⟨rfl, O2⟩ := hcut
              have hbr2 := O2.below
              have hbl2 := O2.lt
              have O2H := Lib.hid O2
              have g3 := O2.four.c3
              clear O2 f3 p0 p1 r0 r1
              obtain ⟨p0, p1⟩ := KR.out wc hbr2
              obtain ⟨wo, hwo⟩ : ∃ wo : World, wo = wc := ⟨_, rfl⟩
              rw [← hwo] at hbr2 hbl2 O2H g3 p0 p1 ⊢
              clear hwo
              go_upto_region 8 with fail
              go_cut [] (InCut W1 b3 t.name t.most t.us A3 m c3 (rs ++ [r]))
              case first =>
                refine wp_region_held_drew (S := fun W => W.cell? ⟨w.heap.size + 1, 0, none⟩ = some (.string r.id) ∧ W.cell? ⟨w.heap.size + 1, 1, none⟩ = some (.slice A r.data.length c)) (by kernel_rfl) (by exact KR.out _ (by repeat (first | assumption | exact Below.refl _ _ | refine Below.drew ?_ | refine Below.alloc ?_ (by first | assumption | exact Nat.le_refl _ | omega | (simp; done) | (simp; omega)) _ | refine Below.setCell ?_ (by first | assumption | exact Nat.le_refl _ | omega | (simp; done) | (simp; omega)) _))) (fun hHeld => ?_)
                refine wpAnyH_take (i := 0) (oi := _) (v := .pointer (some ⟨b3, 3, none⟩)) rfl (by kernel_rfl) (by kernel_rfl) (by kernel_rfl) (fun _ _ _ h => h) (Or.inl ⟨by rfl, fun W _ => rfl⟩) hHeld ?_
                try simp only [Act.put, List.getElem_toArray, List.getElem_cons_zero, List.setIfInBounds_toArray, List.set_cons_zero, List.set_cons_succ]
                refine wpAnyH_take (i := 2) (oi := _) (v := .agg #[.string r.id, .slice A r.data.length c]) rfl (by kernel_rfl) (by kernel_rfl) (by kernel_rfl) (fun _ _ _ h => h) (Or.inl ⟨by rfl, by intro W hW; obtain ⟨q1, q2⟩ := hW; go_simp⟩) hHeld ?_
                try simp only [Act.put, List.getElem_toArray, List.getElem_cons_zero, List.getElem_cons_succ, List.setIfInBounds_toArray, List.set_cons_zero, List.set_cons_succ]
                refine wpAnyH_ready (rs := [1, 3]) (by kernel_rfl) (by simp) ?_
                refine AllReadyH.cons (o := _) rfl (fun K hK => ?_) (AllReadyH.cons (o := _) rfl (fun K hK => ?_) AllReadyH.nil)
                · skip
                  clear hHeld
                  go_simp
                  refine hK.out _ _ (by exact KR.out _ (by repeat (first | assumption | exact Below.refl _ _ | refine Below.drew ?_ | refine Below.alloc ?_ (by first | assumption | exact Nat.le_refl _ | omega | (simp; done) | (simp; omega)) _ | refine Below.setCell ?_ (by first | assumption | exact Nat.le_refl _ | omega | (simp; done) | (simp; omega)) _))) (fun hHeld => ?_)
                  clear hK K
                  try simp only [Act.put, List.getElem_toArray, List.getElem_cons_zero, List.getElem_cons_succ, List.setIfInBounds_toArray, List.set_cons_zero, List.set_cons_succ]
                  refine wpAnyH_ready (rs := [3]) (by kernel_rfl) (by simp) ?_
                  refine AllReadyH.cons (o := _) rfl (fun K hK => ?_) AllReadyH.nil
                  clear hHeld
                  go_simp
                  refine (CR.out _ ?hq ?hl).mono ?_
                  case hq => exact (by repeat (first | assumption | exact Below.refl _ _ | refine Below.drew ?_))
                  case hl => simpa using hbl2
                  rintro e w7 ⟨A5, c5, rfl, ho5, hb7⟩
                  have hq7 : Below wo.heap.size wo w7 := Below.trans (by repeat (first | assumption | exact Below.refl _ _ | refine Below.drew ?_)) (hb7.mono (by simp))
                  have hl7 := hq7.size
                  have O7 := O2H.out.step hq7
                  have hb7 := O7.below
                  have hb3l := O7.lt
                  have q3 := O7.four.c3
                  have HO7 := Lib.hid (And.intro O7 ho5)
                  clear O7 ho5
                  refine hK.out _ _ (by exact KR.out _ (by repeat (first | assumption | exact Below.refl _ _ | refine Below.drew ?_ | refine Below.alloc ?_ (by first | assumption | exact Nat.le_refl _ | omega | (simp; done) | (simp; omega)) _ | refine Below.setCell ?_ (by first | assumption | exact Nat.le_refl _ | omega | (simp; done) | (simp; omega)) _))) (fun hHeld => ?_)
                  clear hK K
                  try simp only [Act.put, List.getElem_toArray, List.getElem_cons_zero, List.getElem_cons_succ, List.setIfInBounds_toArray, List.set_cons_zero, List.set_cons_succ]
                  refine wpAnyH_ready (rs := [4]) (by kernel_rfl) (by simp) ?_
                  refine AllReadyH.cons (o := _) rfl (fun K hK => ?_) AllReadyH.nil
                  clear hHeld
                  go_simp
                  refine hK.out _ _ (by exact KR.out _ (by repeat (first | assumption | exact Below.refl _ _ | refine Below.drew ?_ | refine Below.alloc ?_ (by first | assumption | exact Nat.le_refl _ | omega | (simp; done) | (simp; omega)) _ | refine Below.setCell ?_ (by first | assumption | exact Nat.le_refl _ | omega | (simp; done) | (simp; omega)) _))) (fun hHeld => ?_)
                  clear hK K
                  try simp only [Act.put, List.getElem_toArray, List.getElem_cons_zero, List.getElem_cons_succ, List.setIfInBounds_toArray, List.set_cons_zero, List.set_cons_succ]
                  refine wpAnyH_ready (rs := [5]) (by kernel_rfl) (by simp) ?_
                  refine AllReadyH.cons (o := _) rfl (fun K hK => ?_) AllReadyH.nil
                  clear hHeld
                  refine step_append_rdK (by rfl) _ _ _ (by rfl) (b3 + 1) 28 i0 (.agg #[.string ⟨#[]⟩, .slice none 0 0]) 2 40 Tryz.underlying23 hi hz0 hz1 hz2 (by rfl) (by decide) (.slice Ax rs.length cx) rs.length vs (by rfl) (HO7.out.1.own.alloc _) (B := w7.heap.size + 1) (some ⟨w7.heap.size, 0, none⟩) 1 1 [.string r.id, .slice A5 r.data.length c5] (by rfl) (rd_new w7 _ _ _ rfl) (by rfl) (rec_one _ _ _ _) (by unfold maxLen; omega) (by omega) (by simp; omega) ?_
                  intro v9 w9 ho9 hg9 _
                  obtain ⟨A9, c9, rfl, _, _⟩ := own_slice ho9
                  have O8 := HO7.out.1.step ((Below.refl w7.heap.size w7).alloc (Nat.le_refl _) (.cells #[.string r.id, .slice A5 r.data.length c5] 28))
                  have ON := O8.add (HO7.out.2.alloc _) ho9 hg9
                  have f9 := O8.four.grown hg9 (by intro e; have := (O8.own.lt b3 e.symm).1; omega)
                  have hb9 : Below W1.heap.size W1 w9 := O8.below.grown hg9 O8.below.size (fun k hk => by have := (O8.own.lt k hk).1; have := O8.le; omega)
                  obtain ⟨_, _, _, s3, sf⟩ := f9
                  have s4 := sf 3
                  have HON := Lib.hid ON
                  clear O8 ON sf
                  refine hK.out _ _ (by exact KR.out _ (by repeat (first | assumption | exact Below.refl _ _ | refine Below.drew ?_ | refine Below.alloc ?_ (by first | assumption | exact Nat.le_refl _ | omega | (simp; done) | (simp; omega)) _ | refine Below.setCell ?_ (by first | assumption | exact Nat.le_refl _ | omega | (simp; done) | (simp; omega)) _))) (fun hHeld => ?_)
                  clear hK K
                  try simp only [Act.put, List.getElem_toArray, List.getElem_cons_zero, List.getElem_cons_succ, List.setIfInBounds_toArray, List.set_cons_zero, List.set_cons_succ]
                  refine wpAnyH_take (i := 6) (oi := _) (v := .pointer (some ⟨b3, 3, none⟩)) rfl (by kernel_rfl) (by kernel_rfl) (by kernel_rfl) (fun _ _ _ h => h) (Or.inl ⟨by rfl, fun W _ => rfl⟩) hHeld ?_
                  try simp only [Act.put, List.getElem_toArray, List.getElem_cons_zero, List.getElem_cons_succ, List.setIfInBounds_toArray, List.set_cons_zero, List.set_cons_succ]
                  refine wpAnyH_ready (rs := [7]) (by kernel_rfl) (by simp) ?_
                  refine AllReadyH.cons (o := _) rfl (fun K hK => ?_) AllReadyH.nil
                  clear hHeld
                  go_simp
                  refine hK.out _ _ (by exact KR.out _ (by repeat (first | assumption | exact Below.refl _ _ | refine Below.drew ?_ | refine Below.alloc ?_ (by first | assumption | exact Nat.le_refl _ | omega | (simp; done) | (simp; omega)) _ | refine Below.setCell ?_ (by first | assumption | exact Nat.le_refl _ | omega | (simp; done) | (simp; omega)) _))) (fun hHeld => ?_)
                  clear hK K
                  try simp only [Act.put, List.getElem_toArray, List.getElem_cons_zero, List.getElem_cons_succ, List.setIfInBounds_toArray, List.set_cons_zero, List.set_cons_succ]
                  refine wpAnyH_done (by kernel_rfl) ?_ _
                  go_wp2_with fail
                  go_meet
                  exact ⟨A9, c9, _, HON.out⟩
                · skip
                  clear hHeld
                  go_simp
                  refine (CR.out _ ?hq ?hl).mono ?_
                  case hq => exact (by repeat (first | assumption | exact Below.refl _ _ | refine Below.drew ?_))
                  case hl => simpa using hbl2
                  rintro e w7 ⟨A5, c5, rfl, ho5, hb7⟩
                  have hq7 : Below wo.heap.size wo w7 := Below.trans (by repeat (first | assumption | exact Below.refl _ _ | refine Below.drew ?_)) (hb7.mono (by simp))
                  have hl7 := hq7.size
                  have O7 := O2H.out.step hq7
                  have hb7 := O7.below
                  have hb3l := O7.lt
                  have q3 := O7.four.c3
                  have HO7 := Lib.hid (And.intro O7 ho5)
                  clear O7 ho5
                  refine hK.out _ _ (by exact KR.out _ (by repeat (first | assumption | exact Below.refl _ _ | refine Below.drew ?_ | refine Below.alloc ?_ (by first | assumption | exact Nat.le_refl _ | omega | (simp; done) | (simp; omega)) _ | refine Below.setCell ?_ (by first | assumption | exact Nat.le_refl _ | omega | (simp; done) | (simp; omega)) _))) (fun hHeld => ?_)
                  clear hK K
                  try simp only [Act.put, List.getElem_toArray, List.getElem_cons_zero, List.getElem_cons_succ, List.setIfInBounds_toArray, List.set_cons_zero, List.set_cons_succ]
                  refine wpAnyH_ready (rs := [1, 4]) (by kernel_rfl) (by simp) ?_
                  refine AllReadyH.cons (o := _) rfl (fun K hK => ?_) (AllReadyH.cons (o := _) rfl (fun K hK => ?_) AllReadyH.nil)
                  · skip
                    clear hHeld
                    go_simp
                    refine hK.out _ _ (by exact KR.out _ (by repeat (first | assumption | exact Below.refl _ _ | refine Below.drew ?_ | refine Below.alloc ?_ (by first | assumption | exact Nat.le_refl _ | omega | (simp; done) | (simp; omega)) _ | refine Below.setCell ?_ (by first | assumption | exact Nat.le_refl _ | omega | (simp; done) | (simp; omega)) _))) (fun hHeld => ?_)
                    clear hK K
                    try simp only [Act.put, List.getElem_toArray, List.getElem_cons_zero, List.getElem_cons_succ, List.setIfInBounds_toArray, List.set_cons_zero, List.set_cons_succ]
                    refine wpAnyH_ready (rs := [4]) (by kernel_rfl) (by simp) ?_
                    refine AllReadyH.cons (o := _) rfl (fun K hK => ?_) AllReadyH.nil
                    clear hHeld
                    go_simp
                    refine hK.out _ _ (by exact KR.out _ (by repeat (first | assumption | exact Below.refl _ _ | refine Below.drew ?_ | refine Below.alloc ?_ (by first | assumption | exact Nat.le_refl _ | omega | (simp; done) | (simp; omega)) _ | refine Below.setCell ?_ (by first | assumption | exact Nat.le_refl _ | omega | (simp; done) | (simp; omega)) _))) (fun hHeld => ?_)
                    clear hK K
                    try simp only [Act.put, List.getElem_toArray, List.getElem_cons_zero, List.getElem_cons_succ, List.setIfInBounds_toArray, List.set_cons_zero, List.set_cons_succ]
                    refine wpAnyH_ready (rs := [5]) (by kernel_rfl) (by simp) ?_
                    refine AllReadyH.cons (o := _) rfl (fun K hK => ?_) AllReadyH.nil
                    clear hHeld
                    refine step_append_rdK (by rfl) _ _ _ (by rfl) (b3 + 1) 28 i0 (.agg #[.string ⟨#[]⟩, .slice none 0 0]) 2 40 Tryz.underlying23 hi hz0 hz1 hz2 (by rfl) (by decide) (.slice Ax rs.length cx) rs.length vs (by rfl) (HO7.out.1.own.alloc _) (B := w7.heap.size + 1) (some ⟨w7.heap.size, 0, none⟩) 1 1 [.string r.id, .slice A5 r.data.length c5] (by rfl) (rd_new w7 _ _ _ rfl) (by rfl) (rec_one _ _ _ _) (by unfold maxLen; omega) (by omega) (by simp; omega) ?_
                    intro v9 w9 ho9 hg9 _
                    obtain ⟨A9, c9, rfl, _, _⟩ := own_slice ho9
                    have O8 := HO7.out.1.step ((Below.refl w7.heap.size w7).alloc (Nat.le_refl _) (.cells #[.string r.id, .slice A5 r.data.length c5] 28))
                    have ON := O8.add (HO7.out.2.alloc _) ho9 hg9
                    have f9 := O8.four.grown hg9 (by intro e; have := (O8.own.lt b3 e.symm).1; omega)
                    have hb9 : Below W1.heap.size W1 w9 := O8.below.grown hg9 O8.below.size (fun k hk => by have := (O8.own.lt k hk).1; have := O8.le; omega)
                    obtain ⟨_, _, _, s3, sf⟩ := f9
                    have s4 := sf 3
                    have HON := Lib.hid ON
                    clear O8 ON sf
                    refine hK.out _ _ (by exact KR.out _ (by repeat (first | assumption | exact Below.refl _ _ | refine Below.drew ?_ | refine Below.alloc ?_ (by first | assumption | exact Nat.le_refl _ | omega | (simp; done) | (simp; omega)) _ | refine Below.setCell ?_ (by first | assumption | exact Nat.le_refl _ | omega | (simp; done) | (simp; omega)) _))) (fun hHeld => ?_)
                    clear hK K
                    try simp only [Act.put, List.getElem_toArray, List.getElem_cons_zero, List.getElem_cons_succ, List.setIfInBounds_toArray, List.set_cons_zero, List.set_cons_succ]
                    refine wpAnyH_take (i := 6) (oi := _) (v := .pointer (some ⟨b3, 3, none⟩)) rfl (by kernel_rfl) (by kernel_rfl) (by kernel_rfl) (fun _ _ _ h => h) (Or.inl ⟨by rfl, fun W _ => rfl⟩) hHeld ?_
                    try simp only [Act.put, List.getElem_toArray, List.getElem_cons_zero, List.getElem_cons_succ, List.setIfInBounds_toArray, List.set_cons_zero, List.set_cons_succ]
                    refine wpAnyH_ready (rs := [7]) (by kernel_rfl) (by simp) ?_
                    refine AllReadyH.cons (o := _) rfl (fun K hK => ?_) AllReadyH.nil
                    clear hHeld
                    go_simp
                    refine hK.out _ _ (by exact KR.out _ (by repeat (first | assumption | exact Below.refl _ _ | refine Below.drew ?_ | refine Below.alloc ?_ (by first | assumption | exact Nat.le_refl _ | omega | (simp; done) | (simp; omega)) _ | refine Below.setCell ?_ (by first | assumption | exact Nat.le_refl _ | omega | (simp; done) | (simp; omega)) _))) (fun hHeld => ?_)
                    clear hK K
                    try simp only [Act.put, List.getElem_toArray, List.getElem_cons_zero, List.getElem_cons_succ, List.setIfInBounds_toArray, List.set_cons_zero, List.set_cons_succ]
                    refine wpAnyH_done (by kernel_rfl) ?_ _
                    go_wp2_with fail
                    go_meet
                    exact ⟨A9, c9, _, HON.out⟩
                  · skip
                    clear hHeld
                    go_simp
                    refine hK.out _ _ (by exact KR.out _ (by repeat (first | assumption | exact Below.refl _ _ | refine Below.drew ?_ | refine Below.alloc ?_ (by first | assumption | exact Nat.le_refl _ | omega | (simp; done) | (simp; omega)) _ | refine Below.setCell ?_ (by first | assumption | exact Nat.le_refl _ | omega | (simp; done) | (simp; omega)) _))) (fun hHeld => ?_)
                    clear hK K
                    try simp only [Act.put, List.getElem_toArray, List.getElem_cons_zero, List.getElem_cons_succ, List.setIfInBounds_toArray, List.set_cons_zero, List.set_cons_succ]
                    refine wpAnyH_ready (rs := [1]) (by kernel_rfl) (by simp) ?_
                    refine AllReadyH.cons (o := _) rfl (fun K hK => ?_) AllReadyH.nil
                    clear hHeld
                    go_simp
                    refine hK.out _ _ (by exact KR.out _ (by repeat (first | assumption | exact Below.refl _ _ | refine Below.drew ?_ | refine Below.alloc ?_ (by first | assumption | exact Nat.le_refl _ | omega | (simp; done) | (simp; omega)) _ | refine Below.setCell ?_ (by first | assumption | exact Nat.le_refl _ | omega | (simp; done) | (simp; omega)) _))) (fun hHeld => ?_)
                    clear hK K
                    try simp only [Act.put, List.getElem_toArray, List.getElem_cons_zero, List.getElem_cons_succ, List.setIfInBounds_toArray, List.set_cons_zero, List.set_cons_succ]
                    refine wpAnyH_ready (rs := [5]) (by kernel_rfl) (by simp) ?_
                    refine AllReadyH.cons (o := _) rfl (fun K hK => ?_) AllReadyH.nil
                    clear hHeld
                    refine step_append_rdK (by rfl) _ _ _ (by rfl) (b3 + 1) 28 i0 (.agg #[.string ⟨#[]⟩, .slice none 0 0]) 2 40 Tryz.underlying23 hi hz0 hz1 hz2 (by rfl) (by decide) (.slice Ax rs.length cx) rs.length vs (by rfl) (HO7.out.1.own.alloc _) (B := w7.heap.size + 1) (some ⟨w7.heap.size, 0, none⟩) 1 1 [.string r.id, .slice A5 r.data.length c5] (by rfl) (rd_new w7 _ _ _ rfl) (by rfl) (rec_one _ _ _ _) (by unfold maxLen; omega) (by omega) (by simp; omega) ?_
                    intro v9 w9 ho9 hg9 _
                    obtain ⟨A9, c9, rfl, _, _⟩ := own_slice ho9
                    have O8 := HO7.out.1.step ((Below.refl w7.heap.size w7).alloc (Nat.le_refl _) (.cells #[.string r.id, .slice A5 r.data.length c5] 28))
                    have ON := O8.add (HO7.out.2.alloc _) ho9 hg9
                    have f9 := O8.four.grown hg9 (by intro e; have := (O8.own.lt b3 e.symm).1; omega)
                    have hb9 : Below W1.heap.size W1 w9 := O8.below.grown hg9 O8.below.size (fun k hk => by have := (O8.own.lt k hk).1; have := O8.le; omega)
                    obtain ⟨_, _, _, s3, sf⟩ := f9
                    have s4 := sf 3
                    have HON := Lib.hid ON
                    clear O8 ON sf
                    refine hK.out _ _ (by exact KR.out _ (by repeat (first | assumption | exact Below.refl _ _ | refine Below.drew ?_ | refine Below.alloc ?_ (by first | assumption | exact Nat.le_refl _ | omega | (simp; done) | (simp; omega)) _ | refine Below.setCell ?_ (by first | assumption | exact Nat.le_refl _ | omega | (simp; done) | (simp; omega)) _))) (fun hHeld => ?_)
                    clear hK K
                    try simp only [Act.put, List.getElem_toArray, List.getElem_cons_zero, List.getElem_cons_succ, List.setIfInBounds_toArray, List.set_cons_zero, List.set_cons_succ]
                    refine wpAnyH_take (i := 6) (oi := _) (v := .pointer (some ⟨b3, 3, none⟩)) rfl (by kernel_rfl) (by kernel_rfl) (by kernel_rfl) (fun _ _ _ h => h) (Or.inl ⟨by rfl, fun W _ => rfl⟩) hHeld ?_
                    try simp only [Act.put, List.getElem_toArray, List.getElem_cons_zero, List.getElem_cons_succ, List.setIfInBounds_toArray, List.set_cons_zero, List.set_cons_succ]
                    refine wpAnyH_ready (rs := [7]) (by kernel_rfl) (by simp) ?_
                    refine AllReadyH.cons (o := _) rfl (fun K hK => ?_) AllReadyH.nil
                    clear hHeld
                    go_simp
                    refine hK.out _ _ (by exact KR.out _ (by repeat (first | assumption | exact Below.refl _ _ | refine Below.drew ?_ | refine Below.alloc ?_ (by first | assumption | exact Nat.le_refl _ | omega | (simp; done) | (simp; omega)) _ | refine Below.setCell ?_ (by first | assumption | exact Nat.le_refl _ | omega | (simp; done) | (simp; omega)) _))) (fun hHeld => ?_)
                    clear hK K
                    try simp only [Act.put, List.getElem_toArray, List.getElem_cons_zero, List.getElem_cons_succ, List.setIfInBounds_toArray, List.set_cons_zero, List.set_cons_succ]
                    refine wpAnyH_done (by kernel_rfl) ?_ _
                    go_wp2_with fail
                    go_meet
                    exact ⟨A9, c9, _, HON.out⟩
              case rest =>
                obtain ⟨A8, c8, vs8, O8⟩ := hcut
                obtain ⟨rs8, hrs8⟩ : ∃ l, l = rs ++ [r] := ⟨_, rfl⟩
                have hl8 : rs8.length ≤ 1001 := by rw [hrs8]; simp; omega
                rw [← hrs8] at O8
                have HR8 := Lib.hid hrs8
                have hbr8 := O8.below
                have hbl8 := O8.lt
                have O8H := Lib.hid O8
                have g8 := O8.four.c3
                clear O8 hrs8 hbr2 hbl2 O2H g3 p0 p1
                obtain ⟨f3, r0, r1⟩ := KF.out wc hbr8
                go_upto_region 10 with fail
                refine wp_region_held_drew (S := fun W => W.cell? ⟨w.heap.size, 3, none⟩ = some (.slice (some ⟨b, off, none⟩) n cr) ∧ W.cell? ⟨b, off + k * 2, none⟩ = some (.string x.id) ∧ W.cell? ⟨b, off + k * 2 + 1, none⟩ = some (.slice A2 x.data.length c2)) (by kernel_rfl) (by exact KF.out _ (by repeat (first | assumption | exact Below.refl _ _ | refine Below.drew ?_ | refine Below.alloc ?_ (by first | assumption | exact Nat.le_refl _ | omega | (simp; done) | (simp; omega)) _ | refine Below.setCell ?_ (by first | assumption | exact Nat.le_refl _ | omega | (simp; done) | (simp; omega)) _))) (fun hHeld => ?_)
                refine wpAnyH_take (i := 0) (oi := _) (v := .pointer (some ⟨b3, 3, none⟩)) rfl (by kernel_rfl) (by kernel_rfl) (by kernel_rfl) (fun _ _ _ h => h) (Or.inl ⟨by rfl, fun W _ => rfl⟩) hHeld ?_
                try simp only [Act.put, List.getElem_toArray, List.getElem_cons_zero, List.setIfInBounds_toArray, List.set_cons_zero, List.set_cons_succ]
                refine wpAnyH_take (i := 2) (oi := _) (v := .pointer (some ⟨w.heap.size, 3, none⟩)) rfl (by kernel_rfl) (by kernel_rfl) (by kernel_rfl) (fun _ _ _ h => h) (Or.inl ⟨by rfl, fun W _ => rfl⟩) hHeld ?_
                try simp only [Act.put, List.getElem_toArray, List.getElem_cons_zero, List.getElem_cons_succ, List.setIfInBounds_toArray, List.set_cons_zero, List.set_cons_succ]
                refine wpAnyH_take (i := 3) (oi := _) (v := .slice (some ⟨b, off, none⟩) n cr) rfl (by kernel_rfl) (by kernel_rfl) (by kernel_rfl) (fun _ _ _ h => h) (Or.inl ⟨by rfl, by intro W hW; obtain ⟨q1, q2, q3⟩ := hW; go_simp⟩) hHeld ?_
                try simp only [Act.put, List.getElem_toArray, List.getElem_cons_zero, List.getElem_cons_succ, List.setIfInBounds_toArray, List.set_cons_zero, List.set_cons_succ]
                refine wpAnyH_take (i := 4) (oi := _) (v := .int .i64 k) rfl (by kernel_rfl) (by kernel_rfl) (by kernel_rfl) (fun _ _ _ h => h) (Or.inl ⟨by rfl, fun W _ => rfl⟩) hHeld ?_
                try simp only [Act.put, List.getElem_toArray, List.getElem_cons_zero, List.getElem_cons_succ, List.setIfInBounds_toArray, List.set_cons_zero, List.set_cons_succ]
                refine wpAnyH_take (i := 5) (oi := _) (v := .pointer (some ⟨b, off + k * 2, none⟩)) rfl (by kernel_rfl) (by kernel_rfl) (by kernel_rfl) (fun _ _ _ h => h) (Or.inl ⟨by rfl, by intro W hW; clear hW; go_simp⟩) hHeld ?_
                try simp only [Act.put, List.getElem_toArray, List.getElem_cons_zero, List.getElem_cons_succ, List.setIfInBounds_toArray, List.set_cons_zero, List.set_cons_succ]
                refine wpAnyH_take (i := 6) (oi := _) (v := .agg #[.string x.id, .slice A2 x.data.length c2]) rfl (by kernel_rfl) (by kernel_rfl) (by kernel_rfl) (fun _ _ _ h => h) (Or.inl ⟨by rfl, by intro W hW; obtain ⟨q1, q2, q3⟩ := hW; go_simp⟩) hHeld ?_
                try simp only [Act.put, List.getElem_toArray, List.getElem_cons_zero, List.getElem_cons_succ, List.setIfInBounds_toArray, List.set_cons_zero, List.set_cons_succ]
                refine wpAnyH_ready (rs := [1, 7]) (by kernel_rfl) (by simp) ?_
                refine AllReadyH.cons (o := _) rfl (fun K hK => ?_) (AllReadyH.cons (o := _) rfl (fun K hK => ?_) AllReadyH.nil)
                · skip
                  clear hHeld
                  go_simp
                  refine hK.out _ _ (by exact KF.out _ (by repeat (first | assumption | exact Below.refl _ _ | refine Below.drew ?_ | refine Below.alloc ?_ (by first | assumption | exact Nat.le_refl _ | omega | (simp; done) | (simp; omega)) _ | refine Below.setCell ?_ (by first | assumption | exact Nat.le_refl _ | omega | (simp; done) | (simp; omega)) _))) (fun hHeld => ?_)
                  clear hK K
                  try simp only [Act.put, List.getElem_toArray, List.getElem_cons_zero, List.getElem_cons_succ, List.setIfInBounds_toArray, List.set_cons_zero, List.set_cons_succ]
                  refine wpAnyH_ready (rs := [7]) (by kernel_rfl) (by simp) ?_
                  refine AllReadyH.cons (o := _) rfl (fun K hK => ?_) AllReadyH.nil
                  clear hHeld
                  go_simp
                  refine (CT.out _ ?hq ?hl).mono ?_
                  case hq => exact (by repeat (first | assumption | exact Below.refl _ _ | refine Below.drew ?_))
                  case hl => simpa using hbl8
                  rintro e w7 ⟨A5, c5, rfl, ho5, hb7⟩
                  have hq7 : Below wc.heap.size wc w7 := Below.trans (by repeat (first | assumption | exact Below.refl _ _ | refine Below.drew ?_)) (hb7.mono (by simp))
                  have hl7 := hq7.size
                  have O7 := O8H.out.step hq7
                  have hb7 := O7.below
                  have hb3l := O7.lt
                  have q3 := O7.four.c3
                  have HO7 := Lib.hid (And.intro O7 ho5)
                  clear O7 ho5
                  refine hK.out _ _ (by exact KF.out _ (by repeat (first | assumption | exact Below.refl _ _ | refine Below.drew ?_ | refine Below.alloc ?_ (by first | assumption | exact Nat.le_refl _ | omega | (simp; done) | (simp; omega)) _ | refine Below.setCell ?_ (by first | assumption | exact Nat.le_refl _ | omega | (simp; done) | (simp; omega)) _))) (fun hHeld => ?_)
                  clear hK K
                  try simp only [Act.put, List.getElem_toArray, List.getElem_cons_zero, List.getElem_cons_succ, List.setIfInBounds_toArray, List.set_cons_zero, List.set_cons_succ]
                  refine wpAnyH_ready (rs := [8]) (by kernel_rfl) (by simp) ?_
                  refine AllReadyH.cons (o := _) rfl (fun K hK => ?_) AllReadyH.nil
                  clear hHeld
                  go_simp
                  refine hK.out _ _ (by exact KF.out _ (by repeat (first | assumption | exact Below.refl _ _ | refine Below.drew ?_ | refine Below.alloc ?_ (by first | assumption | exact Nat.le_refl _ | omega | (simp; done) | (simp; omega)) _ | refine Below.setCell ?_ (by first | assumption | exact Nat.le_refl _ | omega | (simp; done) | (simp; omega)) _))) (fun hHeld => ?_)
                  clear hK K
                  try simp only [Act.put, List.getElem_toArray, List.getElem_cons_zero, List.getElem_cons_succ, List.setIfInBounds_toArray, List.set_cons_zero, List.set_cons_succ]
                  refine wpAnyH_ready (rs := [9]) (by kernel_rfl) (by simp) ?_
                  refine AllReadyH.cons (o := _) rfl (fun K hK => ?_) AllReadyH.nil
                  clear hHeld
                  refine step_append_rdK (by rfl) _ _ _ (by rfl) (b3 + 1) 28 i0 (.agg #[.string ⟨#[]⟩, .slice none 0 0]) 2 40 Tryz.underlying23 hi hz0 hz1 hz2 (by rfl) (by decide) (.slice A8 rs8.length c8) rs8.length vs8 (by rfl) (HO7.out.1.own.alloc _) (B := w7.heap.size + 1) (some ⟨w7.heap.size, 0, none⟩) 1 1 [.string x.id, .slice A5 x.data.length c5] (by rfl) (rd_new w7 _ _ _ rfl) (by rfl) (rec_one _ _ _ _) (by unfold maxLen; omega) (by omega) (by simp; omega) ?_
                  intro v9 w9 ho9 hg9 _
                  obtain ⟨A9, c9, rfl, _, _⟩ := own_slice ho9
                  have O8 := HO7.out.1.step ((Below.refl w7.heap.size w7).alloc (Nat.le_refl _) (.cells #[.string x.id, .slice A5 x.data.length c5] 28))
                  have ON := O8.add (HO7.out.2.alloc _) ho9 hg9
                  have f9 := O8.four.grown hg9 (by intro e; have := (O8.own.lt b3 e.symm).1; omega)
                  have hb9 : Below W1.heap.size W1 w9 := O8.below.grown hg9 O8.below.size (fun k hk => by have := (O8.own.lt k hk).1; have := O8.le; omega)
                  obtain ⟨_, _, _, s3, sf⟩ := f9
                  have s4 := sf 3
                  have HON := Lib.hid ON
                  clear O8 ON sf
                  refine hK.out _ _ (by exact KF.out _ (by repeat (first | assumption | exact Below.refl _ _ | refine Below.drew ?_ | refine Below.alloc ?_ (by first | assumption | exact Nat.le_refl _ | omega | (simp; done) | (simp; omega)) _ | refine Below.setCell ?_ (by first | assumption | exact Nat.le_refl _ | omega | (simp; done) | (simp; omega)) _))) (fun hHeld => ?_)
                  clear hK K
                  try simp only [Act.put, List.getElem_toArray, List.getElem_cons_zero, List.getElem_cons_succ, List.setIfInBounds_toArray, List.set_cons_zero, List.set_cons_succ]
                  refine wpAnyH_take (i := 10) (oi := _) (v := .pointer (some ⟨b3, 3, none⟩)) rfl (by kernel_rfl) (by kernel_rfl) (by kernel_rfl) (fun _ _ _ h => h) (Or.inl ⟨by rfl, fun W _ => rfl⟩) hHeld ?_
                  try simp only [Act.put, List.getElem_toArray, List.getElem_cons_zero, List.getElem_cons_succ, List.setIfInBounds_toArray, List.set_cons_zero, List.set_cons_succ]
                  refine wpAnyH_ready (rs := [11]) (by kernel_rfl) (by simp) ?_
                  refine AllReadyH.cons (o := _) rfl (fun K hK => ?_) AllReadyH.nil
                  clear hHeld
                  go_simp
                  refine hK.out _ _ (by exact KF.out _ (by repeat (first | assumption | exact Below.refl _ _ | refine Below.drew ?_ | refine Below.alloc ?_ (by first | assumption | exact Nat.le_refl _ | omega | (simp; done) | (simp; omega)) _ | refine Below.setCell ?_ (by first | assumption | exact Nat.le_refl _ | omega | (simp; done) | (simp; omega)) _))) (fun hHeld => ?_)
                  clear hK K
                  try simp only [Act.put, List.getElem_toArray, List.getElem_cons_zero, List.getElem_cons_succ, List.setIfInBounds_toArray, List.set_cons_zero, List.set_cons_succ]
                  refine wpAnyH_done (by kernel_rfl) ?_ _
                  go_wp2_with fail
                  go_meet
                  exact ⟨rfl, A9, c9, _, by rw [← HR8.out]; exact HON.out⟩
                · skip
                  clear hHeld
                  go_simp
                  refine (CT.out _ ?hq ?hl).mono ?_
                  case hq => exact (by repeat (first | assumption | exact Below.refl _ _ | refine Below.drew ?_))
                  case hl => simpa using hbl8
                  rintro e w7 ⟨A5, c5, rfl, ho5, hb7⟩
                  have hq7 : Below wc.heap.size wc w7 := Below.trans (by repeat (first | assumption | exact Below.refl _ _ | refine Below.drew ?_)) (hb7.mono (by simp))
                  have hl7 := hq7.size
                  have O7 := O8H.out.step hq7
                  have hb7 := O7.below
                  have hb3l := O7.lt
                  have q3 := O7.four.c3
                  have HO7 := Lib.hid (And.intro O7 ho5)
                  clear O7 ho5
                  refine hK.out _ _ (by exact KF.out _ (by repeat (first | assumption | exact Below.refl _ _ | refine Below.drew ?_ | refine Below.alloc ?_ (by first | assumption | exact Nat.le_refl _ | omega | (simp; done) | (simp; omega)) _ | refine Below.setCell ?_ (by first | assumption | exact Nat.le_refl _ | omega | (simp; done) | (simp; omega)) _))) (fun hHeld => ?_)
                  clear hK K
                  try simp only [Act.put, List.getElem_toArray, List.getElem_cons_zero, List.getElem_cons_succ, List.setIfInBounds_toArray, List.set_cons_zero, List.set_cons_succ]
                  refine wpAnyH_ready (rs := [1, 8]) (by kernel_rfl) (by simp) ?_
                  refine AllReadyH.cons (o := _) rfl (fun K hK => ?_) (AllReadyH.cons (o := _) rfl (fun K hK => ?_) AllReadyH.nil)
                  · skip
                    clear hHeld
                    go_simp
                    refine hK.out _ _ (by exact KF.out _ (by repeat (first | assumption | exact Below.refl _ _ | refine Below.drew ?_ | refine Below.alloc ?_ (by first | assumption | exact Nat.le_refl _ | omega | (simp; done) | (simp; omega)) _ | refine Below.setCell ?_ (by first | assumption | exact Nat.le_refl _ | omega | (simp; done) | (simp; omega)) _))) (fun hHeld => ?_)
                    clear hK K
                    try simp only [Act.put, List.getElem_toArray, List.getElem_cons_zero, List.getElem_cons_succ, List.setIfInBounds_toArray, List.set_cons_zero, List.set_cons_succ]
                    refine wpAnyH_ready (rs := [8]) (by kernel_rfl) (by simp) ?_
                    refine AllReadyH.cons (o := _) rfl (fun K hK => ?_) AllReadyH.nil
                    clear hHeld
                    go_simp
                    refine hK.out _ _ (by exact KF.out _ (by repeat (first | assumption | exact Below.refl _ _ | refine Below.drew ?_ | refine Below.alloc ?_ (by first | assumption | exact Nat.le_refl _ | omega | (simp; done) | (simp; omega)) _ | refine Below.setCell ?_ (by first | assumption | exact Nat.le_refl _ | omega | (simp; done) | (simp; omega)) _))) (fun hHeld => ?_)
                    clear hK K
                    try simp only [Act.put, List.getElem_toArray, List.getElem_cons_zero, List.getElem_cons_succ, List.setIfInBounds_toArray, List.set_cons_zero, List.set_cons_succ]
                    refine wpAnyH_ready (rs := [9]) (by kernel_rfl) (by simp) ?_
                    refine AllReadyH.cons (o := _) rfl (fun K hK => ?_) AllReadyH.nil
                    clear hHeld
                    refine step_append_rdK (by rfl) _ _ _ (by rfl) (b3 + 1) 28 i0 (.agg #[.string ⟨#[]⟩, .slice none 0 0]) 2 40 Tryz.underlying23 hi hz0 hz1 hz2 (by rfl) (by decide) (.slice A8 rs8.length c8) rs8.length vs8 (by rfl) (HO7.out.1.own.alloc _) (B := w7.heap.size + 1) (some ⟨w7.heap.size, 0, none⟩) 1 1 [.string x.id, .slice A5 x.data.length c5] (by rfl) (rd_new w7 _ _ _ rfl) (by rfl) (rec_one _ _ _ _) (by unfold maxLen; omega) (by omega) (by simp; omega) ?_
                    intro v9 w9 ho9 hg9 _
                    obtain ⟨A9, c9, rfl, _, _⟩ := own_slice ho9
                    have O8 := HO7.out.1.step ((Below.refl w7.heap.size w7).alloc (Nat.le_refl _) (.cells #[.string x.id, .slice A5 x.data.length c5] 28))
                    have ON := O8.add (HO7.out.2.alloc _) ho9 hg9
                    have f9 := O8.four.grown hg9 (by intro e; have := (O8.own.lt b3 e.symm).1; omega)
                    have hb9 : Below W1.heap.size W1 w9 := O8.below.grown hg9 O8.below.size (fun k hk => by have := (O8.own.lt k hk).1; have := O8.le; omega)
                    obtain ⟨_, _, _, s3, sf⟩ := f9
                    have s4 := sf 3
                    have HON := Lib.hid ON
                    clear O8 ON sf
                    refine hK.out _ _ (by exact KF.out _ (by repeat (first | assumption | exact Below.refl _ _ | refine Below.drew ?_ | refine Below.alloc ?_ (by first | assumption | exact Nat.le_refl _ | omega | (simp; done) | (simp; omega)) _ | refine Below.setCell ?_ (by first | assumption | exact Nat.le_refl _ | omega | (simp; done) | (simp; omega)) _))) (fun hHeld => ?_)
                    clear hK K
                    try simp only [Act.put, List.getElem_toArray, List.getElem_cons_zero, List.getElem_cons_succ, List.setIfInBounds_toArray, List.set_cons_zero, List.set_cons_succ]
                    refine wpAnyH_take (i := 10) (oi := _) (v := .pointer (some ⟨b3, 3, none⟩)) rfl (by kernel_rfl) (by kernel_rfl) (by kernel_rfl) (fun _ _ _ h => h) (Or.inl ⟨by rfl, fun W _ => rfl⟩) hHeld ?_
                    try simp only [Act.put, List.getElem_toArray, List.getElem_cons_zero, List.getElem_cons_succ, List.setIfInBounds_toArray, List.set_cons_zero, List.set_cons_succ]
                    refine wpAnyH_ready (rs := [11]) (by kernel_rfl) (by simp) ?_
                    refine AllReadyH.cons (o := _) rfl (fun K hK => ?_) AllReadyH.nil
                    clear hHeld
                    go_simp
                    refine hK.out _ _ (by exact KF.out _ (by repeat (first | assumption | exact Below.refl _ _ | refine Below.drew ?_ | refine Below.alloc ?_ (by first | assumption | exact Nat.le_refl _ | omega | (simp; done) | (simp; omega)) _ | refine Below.setCell ?_ (by first | assumption | exact Nat.le_refl _ | omega | (simp; done) | (simp; omega)) _))) (fun hHeld => ?_)
                    clear hK K
                    try simp only [Act.put, List.getElem_toArray, List.getElem_cons_zero, List.getElem_cons_succ, List.setIfInBounds_toArray, List.set_cons_zero, List.set_cons_succ]
                    refine wpAnyH_done (by kernel_rfl) ?_ _
                    go_wp2_with fail
                    go_meet
                    exact ⟨rfl, A9, c9, _, by rw [← HR8.out]; exact HON.out⟩
                  · skip
                    clear hHeld
                    go_simp
                    refine hK.out _ _ (by exact KF.out _ (by repeat (first | assumption | exact Below.refl _ _ | refine Below.drew ?_ | refine Below.alloc ?_ (by first | assumption | exact Nat.le_refl _ | omega | (simp; done) | (simp; omega)) _ | refine Below.setCell ?_ (by first | assumption | exact Nat.le_refl _ | omega | (simp; done) | (simp; omega)) _))) (fun hHeld => ?_)
                    clear hK K
                    try simp only [Act.put, List.getElem_toArray, List.getElem_cons_zero, List.getElem_cons_succ, List.setIfInBounds_toArray, List.set_cons_zero, List.set_cons_succ]
                    refine wpAnyH_ready (rs := [1]) (by kernel_rfl) (by simp) ?_
                    refine AllReadyH.cons (o := _) rfl (fun K hK => ?_) AllReadyH.nil
                    clear hHeld
                    go_simp
                    refine hK.out _ _ (by exact KF.out _ (by repeat (first | assumption | exact Below.refl _ _ | refine Below.drew ?_ | refine Below.alloc ?_ (by first | assumption | exact Nat.le_refl _ | omega | (simp; done) | (simp; omega)) _ | refine Below.setCell ?_ (by first | assumption | exact Nat.le_refl _ | omega | (simp; done) | (simp; omega)) _))) (fun hHeld => ?_)
                    clear hK K
                    try simp only [Act.put, List.getElem_toArray, List.getElem_cons_zero, List.getElem_cons_succ, List.setIfInBounds_toArray, List.set_cons_zero, List.set_cons_succ]
                    refine wpAnyH_ready (rs := [9]) (by kernel_rfl) (by simp) ?_
                    refine AllReadyH.cons (o := _) rfl (fun K hK => ?_) AllReadyH.nil
                    clear hHeld
                    refine step_append_rdK (by rfl) _ _ _ (by rfl) (b3 + 1) 28 i0 (.agg #[.string ⟨#[]⟩, .slice none 0 0]) 2 40 Tryz.underlying23 hi hz0 hz1 hz2 (by rfl) (by decide) (.slice A8 rs8.length c8) rs8.length vs8 (by rfl) (HO7.out.1.own.alloc _) (B := w7.heap.size + 1) (some ⟨w7.heap.size, 0, none⟩) 1 1 [.string x.id, .slice A5 x.data.length c5] (by rfl) (rd_new w7 _ _ _ rfl) (by rfl) (rec_one _ _ _ _) (by unfold maxLen; omega) (by omega) (by simp; omega) ?_
                    intro v9 w9 ho9 hg9 _
                    obtain ⟨A9, c9, rfl, _, _⟩ := own_slice ho9
                    have O8 := HO7.out.1.step ((Below.refl w7.heap.size w7).alloc (Nat.le_refl _) (.cells #[.string x.id, .slice A5 x.data.length c5] 28))
                    have ON := O8.add (HO7.out.2.alloc _) ho9 hg9
                    have f9 := O8.four.grown hg9 (by intro e; have := (O8.own.lt b3 e.symm).1; omega)
                    have hb9 : Below W1.heap.size W1 w9 := O8.below.grown hg9 O8.below.size (fun k hk => by have := (O8.own.lt k hk).1; have := O8.le; omega)
                    obtain ⟨_, _, _, s3, sf⟩ := f9
                    have s4 := sf 3
                    have HON := Lib.hid ON
                    clear O8 ON sf
                    refine hK.out _ _ (by exact KF.out _ (by repeat (first | assumption | exact Below.refl _ _ | refine Below.drew ?_ | refine Below.alloc ?_ (by first | assumption | exact Nat.le_refl _ | omega | (simp; done) | (simp; omega)) _ | refine Below.setCell ?_ (by first | assumption | exact Nat.le_refl _ | omega | (simp; done) | (simp; omega)) _))) (fun hHeld => ?_)
                    clear hK K
                    try simp only [Act.put, List.getElem_toArray, List.getElem_cons_zero, List.getElem_cons_succ, List.setIfInBounds_toArray, List.set_cons_zero, List.set_cons_succ]
                    refine wpAnyH_take (i := 10) (oi := _) (v := .pointer (some ⟨b3, 3, none⟩)) rfl (by kernel_rfl) (by kernel_rfl) (by kernel_rfl) (fun _ _ _ h => h) (Or.inl ⟨by rfl, fun W _ => rfl⟩) hHeld ?_
                    try simp only [Act.put, List.getElem_toArray, List.getElem_cons_zero, List.getElem_cons_succ, List.setIfInBounds_toArray, List.set_cons_zero, List.set_cons_succ]
                    refine wpAnyH_ready (rs := [11]) (by kernel_rfl) (by simp) ?_
                    refine AllReadyH.cons (o := _) rfl (fun K hK => ?_) AllReadyH.nil
                    clear hHeld
                    go_simp
                    refine hK.out _ _ (by exact KF.out _ (by repeat (first | assumption | exact Below.refl _ _ | refine Below.drew ?_ | refine Below.alloc ?_ (by first | assumption | exact Nat.le_refl _ | omega | (simp; done) | (simp; omega)) _ | refine Below.setCell ?_ (by first | assumption | exact Nat.le_refl _ | omega | (simp; done) | (simp; omega)) _))) (fun hHeld => ?_)
                    clear hK K
                    try simp only [Act.put, List.getElem_toArray, List.getElem_cons_zero, List.getElem_cons_succ, List.setIfInBounds_toArray, List.set_cons_zero, List.set_cons_succ]
                    refine wpAnyH_done (by kernel_rfl) ?_ _
                    go_wp2_with fail
                    go_meet
                    exact ⟨rfl, A9, c9, _, by rw [← HR8.out]; exact HON.out⟩
          case rest =>
            obtain ⟨rfl, A9, c9, vs9, O9⟩ := hcut
            go_wp2
            go_roundw
            case rel => exact ⟨k + 1, true, rs ++ [r] ++ [x], hlt, by go_num, rfl, by simp; omega, by rw [List.append_assoc, List.append_assoc]; exact HD.out, A9, c9, vs9, O9⟩
            case measure => simp [intOf]; omega
    · obtain rfl : k = n := by omega
      rw [List.drop_of_length_le (by omega), wiF] at hd
      have hdl : decide (k < k) = false := by simp
      cases d with
      | true =>
        have hrt : rs = V := by simpa using hd
        have P := O.put (g := w.heap.size + 1 + 1) (by have := HF.out.z; omega) (.string t.name) (.int .i64 t.most) (.slice A3 m c3) (.slice Ax rs.length cx)
        have BZ := below_four (DW.out wr hbr) (show w.heap.size ≤ w.heap.size + 1 + 1 by omega) (.string t.name) (.int .i64 t.most) (.slice A3 m c3) (.slice Ax rs.length cx)
        have R := HF.out.o wr hbr
        have RZ := (((R.set0 (.string t.name)).set1 (.int .i64 t.most)).set2 (.slice A3 m c3)).set3 (.slice Ax rs.length cx)
        have HE := Lib.hid (And.intro P (And.intro BZ (And.intro RZ hrt)))
        obtain ⟨z0, z1, z2, z3, zf⟩ := R
        have zf0 := zf 0
        have zf1 := zf 1
        have zf2 := zf 2
        have zf3 := zf 3
        obtain ⟨y0, y1, y2, y3, _⟩ := O.four
        clear hrt P BZ RZ zf O h hm hn hr hid hd
        go_wp2
        obtain ⟨P, BZ, RZ, hrt⟩ := HE.out
        refine bodyPost_ret (v := .agg #[.string t.name, .int .i64 t.most, .slice A3 m c3, .slice Ax rs.length cx]) ?_ rfl ?_
        rotate_left
        · first
            | exact ⟨A3, c3, Ax, cx, by rw [← hrt], own_base P.1 (by have := HF.out.z; omega), by rw [← hrt]; exact P.2.mono (by have := HF.out.z; omega), BZ⟩
            | exact ⟨A3, c3, Ax, ⟨cx, by rw [← hrt]⟩, own_base P.1 (by have := HF.out.z; omega), by rw [← hrt]; exact P.2.mono (by have := HF.out.z; omega), BZ⟩
        rw [results_cell1 rfl]
        exact load_tab1 _ _ RZ
      | false =>
        have hrt : rs ++ [r] = V := by simpa using hd
        have hrk2 : rs.length ≤ k := by simpa using hrk
        have HRT := Lib.hid hrt
        have g3 := O.four.c3
        clear h hm hn hr hid hd hrt O hrk
        go_upto_region 12 with fail
        go_cut [] (InCut W1 b3 t.name t.most t.us A3 m c3 (rs ++ [r]))
        case first =>
          refine wp_region_held_drew (S := fun W => W.cell? ⟨w.heap.size + 1, 0, none⟩ = some (.string r.id) ∧ W.cell? ⟨w.heap.size + 1, 1, none⟩ = some (.slice A r.data.length c)) (by kernel_rfl) (by exact KR.out _ (by repeat (first | assumption | exact Below.refl _ _ | refine Below.drew ?_ | refine Below.alloc ?_ (by first | assumption | exact Nat.le_refl _ | omega | (simp; done) | (simp; omega)) _ | refine Below.setCell ?_ (by first | assumption | exact Nat.le_refl _ | omega | (simp; done) | (simp; omega)) _))) (fun hHeld => ?_)
          refine wpAnyH_take (i := 0) (oi := _) (v := .pointer (some ⟨b3, 3, none⟩)) rfl (by kernel_rfl) (by kernel_rfl) (by kernel_rfl) (fun _ _ _ h => h) (Or.inl ⟨by rfl, fun W _ => rfl⟩) hHeld ?_
          try simp only [Act.put, List.getElem_toArray, List.getElem_cons_zero, List.setIfInBounds_toArray, List.set_cons_zero, List.set_cons_succ]
          refine wpAnyH_take (i := 2) (oi := _) (v := .agg #[.string r.id, .slice A r.data.length c]) rfl (by kernel_rfl) (by kernel_rfl) (by kernel_rfl) (fun _ _ _ h => h) (Or.inl ⟨by rfl, by intro W hW; obtain ⟨q1, q2⟩ := hW; go_simp⟩) hHeld ?_
          try simp only [Act.put, List.getElem_toArray, List.getElem_cons_zero, List.getElem_cons_succ, List.setIfInBounds_toArray, List.set_cons_zero, List.set_cons_succ]
          refine wpAnyH_ready (rs := [1, 3]) (by kernel_rfl) (by simp) ?_
          refine AllReadyH.cons (o := _) rfl (fun K hK => ?_) (AllReadyH.cons (o := _) rfl (fun K hK => ?_) AllReadyH.nil)
          · skip
            clear hHeld
            go_simp
            refine hK.out _ _ (by exact KR.out _ (by repeat (first | assumption | exact Below.refl _ _ | refine Below.drew ?_ | refine Below.alloc ?_ (by first | assumption | exact Nat.le_refl _ | omega | (simp; done) | (simp; omega)) _ | refine Below.setCell ?_ (by first | assumption | exact Nat.le_refl _ | omega | (simp; done) | (simp; omega)) _))) (fun hHeld => ?_)
            clear hK K
            try simp only [Act.put, List.getElem_toArray, List.getElem_cons_zero, List.getElem_cons_succ, List.setIfInBounds_toArray, List.set_cons_zero, List.set_cons_succ]
            refine wpAnyH_ready (rs := [3]) (by kernel_rfl) (by simp) ?_
            refine AllReadyH.cons (o := _) rfl (fun K hK => ?_) AllReadyH.nil
            clear hHeld
            go_simp
            refine (CR.out _ ?hq ?hl).mono ?_
            case hq => exact (by repeat (first | assumption | exact Below.refl _ _ | refine Below.drew ?_))
            case hl => simpa using hbl
            rintro e w7 ⟨A5, c5, rfl, ho5, hb7⟩
            have hq7 : Below wr.heap.size wr w7 := Below.trans (by repeat (first | assumption | exact Below.refl _ _ | refine Below.drew ?_)) (hb7.mono (by simp))
            have hl7 := hq7.size
            have O7 := OO.out.step hq7
            have hb7 := O7.below
            have hb3l := O7.lt
            have q3 := O7.four.c3
            have HO7 := Lib.hid (And.intro O7 ho5)
            clear O7 ho5
            refine hK.out _ _ (by exact KR.out _ (by repeat (first | assumption | exact Below.refl _ _ | refine Below.drew ?_ | refine Below.alloc ?_ (by first | assumption | exact Nat.le_refl _ | omega | (simp; done) | (simp; omega)) _ | refine Below.setCell ?_ (by first | assumption | exact Nat.le_refl _ | omega | (simp; done) | (simp; omega)) _))) (fun hHeld => ?_)
            clear hK K
            try simp only [Act.put, List.getElem_toArray, List.getElem_cons_zero, List.getElem_cons_succ, List.setIfInBounds_toArray, List.set_cons_zero, List.set_cons_succ]
            refine wpAnyH_ready (rs := [4]) (by kernel_rfl) (by simp) ?_
            refine AllReadyH.cons (o := _) rfl (fun K hK => ?_) AllReadyH.nil
            clear hHeld
            go_simp
            refine hK.out _ _ (by exact KR.out _ (by repeat (first | assumption | exact Below.refl _ _ | refine Below.drew ?_ | refine Below.alloc ?_ (by first | assumption | exact Nat.le_refl _ | omega | (simp; done) | (simp; omega)) _ | refine Below.setCell ?_ (by first | assumption | exact Nat.le_refl _ | omega | (simp; done) | (simp; omega)) _))) (fun hHeld => ?_)
            clear hK K
            try simp only [Act.put, List.getElem_toArray, List.getElem_cons_zero, List.getElem_cons_succ, List.setIfInBounds_toArray, List.set_cons_zero, List.set_cons_succ]
            refine wpAnyH_ready (rs := [5]) (by kernel_rfl) (by simp) ?_
            refine AllReadyH.cons (o := _) rfl (fun K hK => ?_) AllReadyH.nil
            clear hHeld
            refine step_append_rdK (by rfl) _ _ _ (by rfl) (b3 + 1) 28 i0 (.agg #[.string ⟨#[]⟩, .slice none 0 0]) 2 40 Tryz.underlying23 hi hz0 hz1 hz2 (by rfl) (by decide) (.slice Ax rs.length cx) rs.length vs (by rfl) (HO7.out.1.own.alloc _) (B := w7.heap.size + 1) (some ⟨w7.heap.size, 0, none⟩) 1 1 [.string r.id, .slice A5 r.data.length c5] (by rfl) (rd_new w7 _ _ _ rfl) (by rfl) (rec_one _ _ _ _) (by unfold maxLen; omega) (by omega) (by simp; omega) ?_
            intro v9 w9 ho9 hg9 _
            obtain ⟨A9, c9, rfl, _, _⟩ := own_slice ho9
            have O8 := HO7.out.1.step ((Below.refl w7.heap.size w7).alloc (Nat.le_refl _) (.cells #[.string r.id, .slice A5 r.data.length c5] 28))
            have ON := O8.add (HO7.out.2.alloc _) ho9 hg9
            have f9 := O8.four.grown hg9 (by intro e; have := (O8.own.lt b3 e.symm).1; omega)
            have hb9 : Below W1.heap.size W1 w9 := O8.below.grown hg9 O8.below.size (fun k hk => by have := (O8.own.lt k hk).1; have := O8.le; omega)
            obtain ⟨_, _, _, s3, sf⟩ := f9
            have s4 := sf 3
            have HON := Lib.hid ON
            clear O8 ON sf
            refine hK.out _ _ (by exact KR.out _ (by repeat (first | assumption | exact Below.refl _ _ | refine Below.drew ?_ | refine Below.alloc ?_ (by first | assumption | exact Nat.le_refl _ | omega | (simp; done) | (simp; omega)) _ | refine Below.setCell ?_ (by first | assumption | exact Nat.le_refl _ | omega | (simp; done) | (simp; omega)) _))) (fun hHeld => ?_)
            clear hK K
            try simp only [Act.put, List.getElem_toArray, List.getElem_cons_zero, List.getElem_cons_succ, List.setIfInBounds_toArray, List.set_cons_zero, List.set_cons_succ]
            refine wpAnyH_take (i := 6) (oi := _) (v := .pointer (some ⟨b3, 3, none⟩)) rfl (by kernel_rfl) (by kernel_rfl) (by kernel_rfl) (fun _ _ _ h => h) (Or.inl ⟨by rfl, fun W _ => rfl⟩) hHeld ?_
            try simp only [Act.put, List.getElem_toArray, List.getElem_cons_zero, List.getElem_cons_succ, List.setIfInBounds_toArray, List.set_cons_zero, List.set_cons_succ]
            refine wpAnyH_ready (rs := [7]) (by kernel_rfl) (by simp) ?_
            refine AllReadyH.cons (o := _) rfl (fun K hK => ?_) AllReadyH.nil
            clear hHeld
            go_simp
            refine hK.out _ _ (by exact KR.out _ (by repeat (first | assumption | exact Below.refl _ _ | refine Below.drew ?_ | refine Below.alloc ?_ (by first | assumption | exact Nat.le_refl _ | omega | (simp; done) | (simp; omega)) _ | refine Below.setCell ?_ (by first | assumption | exact Nat.le_refl _ | omega | (simp; done) | (simp; omega)) _))) (fun hHeld => ?_)
            clear hK K
            try simp only [Act.put, List.getElem_toArray, List.getElem_cons_zero, List.getElem_cons_succ, List.setIfInBounds_toArray, List.set_cons_zero, List.set_cons_succ]
            refine wpAnyH_done (by kernel_rfl) ?_ _
            go_wp2_with fail
            go_meet
            exact ⟨A9, c9, _, HON.out⟩
          · skip
            clear hHeld
            go_simp
            refine (CR.out _ ?hq ?hl).mono ?_
            case hq => exact (by repeat (first | assumption | exact Below.refl _ _ | refine Below.drew ?_))
            case hl => simpa using hbl
            rintro e w7 ⟨A5, c5, rfl, ho5, hb7⟩
            have hq7 : Below wr.heap.size wr w7 := Below.trans (by repeat (first | assumption | exact Below.refl _ _ | refine Below.drew ?_)) (hb7.mono (by simp))
            have hl7 := hq7.size
            have O7 := OO.out.step hq7
            have hb7 := O7.below
            have hb3l := O7.lt
            have q3 := O7.four.c3
            have HO7 := Lib.hid (And.intro O7 ho5)
            clear O7 ho5
            refine hK.out _ _ (by exact KR.out _ (by repeat (first | assumption | exact Below.refl _ _ | refine Below.drew ?_ | refine Below.alloc ?_ (by first | assumption | exact Nat.le_refl _ | omega | (simp; done) | (simp; omega)) _ | refine Below.setCell ?_ (by first | assumption | exact Nat.le_refl _ | omega | (simp; done) | (simp; omega)) _))) (fun hHeld => ?_)
            clear hK K
            try simp only [Act.put, List.getElem_toArray, List.getElem_cons_zero, List.getElem_cons_succ, List.setIfInBounds_toArray, List.set_cons_zero, List.set_cons_succ]
            refine wpAnyH_ready (rs := [1, 4]) (by kernel_rfl) (by simp) ?_
            refine AllReadyH.cons (o := _) rfl (fun K hK => ?_) (AllReadyH.cons (o := _) rfl (fun K hK => ?_) AllReadyH.nil)
            · skip
              clear hHeld
              go_simp
              refine hK.out _ _ (by exact KR.out _ (by repeat (first | assumption | exact Below.refl _ _ | refine Below.drew ?_ | refine Below.alloc ?_ (by first | assumption | exact Nat.le_refl _ | omega | (simp; done) | (simp; omega)) _ | refine Below.setCell ?_ (by first | assumption | exact Nat.le_refl _ | omega | (simp; done) | (simp; omega)) _))) (fun hHeld => ?_)
              clear hK K
              try simp only [Act.put, List.getElem_toArray, List.getElem_cons_zero, List.getElem_cons_succ, List.setIfInBounds_toArray, List.set_cons_zero, List.set_cons_succ]
              refine wpAnyH_ready (rs := [4]) (by kernel_rfl) (by simp) ?_
              refine AllReadyH.cons (o := _) rfl (fun K hK => ?_) AllReadyH.nil
              clear hHeld
              go_simp
              refine hK.out _ _ (by exact KR.out _ (by repeat (first | assumption | exact Below.refl _ _ | refine Below.drew ?_ | refine Below.alloc ?_ (by first | assumption | exact Nat.le_refl _ | omega | (simp; done) | (simp; omega)) _ | refine Below.setCell ?_ (by first | assumption | exact Nat.le_refl _ | omega | (simp; done) | (simp; omega)) _))) (fun hHeld => ?_)
              clear hK K
              try simp only [Act.put, List.getElem_toArray, List.getElem_cons_zero, List.getElem_cons_succ, List.setIfInBounds_toArray, List.set_cons_zero, List.set_cons_succ]
              refine wpAnyH_ready (rs := [5]) (by kernel_rfl) (by simp) ?_
              refine AllReadyH.cons (o := _) rfl (fun K hK => ?_) AllReadyH.nil
              clear hHeld
              refine step_append_rdK (by rfl) _ _ _ (by rfl) (b3 + 1) 28 i0 (.agg #[.string ⟨#[]⟩, .slice none 0 0]) 2 40 Tryz.underlying23 hi hz0 hz1 hz2 (by rfl) (by decide) (.slice Ax rs.length cx) rs.length vs (by rfl) (HO7.out.1.own.alloc _) (B := w7.heap.size + 1) (some ⟨w7.heap.size, 0, none⟩) 1 1 [.string r.id, .slice A5 r.data.length c5] (by rfl) (rd_new w7 _ _ _ rfl) (by rfl) (rec_one _ _ _ _) (by unfold maxLen; omega) (by omega) (by simp; omega) ?_
              intro v9 w9 ho9 hg9 _
              obtain ⟨A9, c9, rfl, _, _⟩ := own_slice ho9
              have O8 := HO7.out.1.step ((Below.refl w7.heap.size w7).alloc (Nat.le_refl _) (.cells #[.string r.id, .slice A5 r.data.length c5] 28))
              have ON := O8.add (HO7.out.2.alloc _) ho9 hg9
              have f9 := O8.four.grown hg9 (by intro e; have := (O8.own.lt b3 e.symm).1; omega)
              have hb9 : Below W1.heap.size W1 w9 := O8.below.grown hg9 O8.below.size (fun k hk => by have := (O8.own.lt k hk).1; have := O8.le; omega)
              obtain ⟨_, _, _, s3, sf⟩ := f9
              have s4 := sf 3
              have HON := Lib.hid ON
              clear O8 ON sf
              refine hK.out _ _ (by exact KR.out _ (by repeat (first | assumption | exact Below.refl _ _ | refine Below.drew ?_ | refine Below.alloc ?_ (by first | assumption | exact Nat.le_refl _ | omega | (simp; done) | (simp; omega)) _ | refine Below.setCell ?_ (by first | assumption | exact Nat.le_refl _ | omega | (simp; done) | (simp; omega)) _))) (fun hHeld => ?_)
              clear hK K
              try simp only [Act.put, List.getElem_toArray, List.getElem_cons_zero, List.getElem_cons_succ, List.setIfInBounds_toArray, List.set_cons_zero, List.set_cons_succ]
              refine wpAnyH_take (i := 6) (oi := _) (v := .pointer (some ⟨b3, 3, none⟩)) rfl (by kernel_rfl) (by kernel_rfl) (by kernel_rfl) (fun _ _ _ h => h) (Or.inl ⟨by rfl, fun W _ => rfl⟩) hHeld ?_
              try simp only [Act.put, List.getElem_toArray, List.getElem_cons_zero, List.getElem_cons_succ, List.setIfInBounds_toArray, List.set_cons_zero, List.set_cons_succ]
              refine wpAnyH_ready (rs := [7]) (by kernel_rfl) (by simp) ?_
              refine AllReadyH.cons (o := _) rfl (fun K hK => ?_) AllReadyH.nil
              clear hHeld
              go_simp
              refine hK.out _ _ (by exact KR.out _ (by repeat (first | assumption | exact Below.refl _ _ | refine Below.drew ?_ | refine Below.alloc ?_ (by first | assumption | exact Nat.le_refl _ | omega | (simp; done) | (simp; omega)) _ | refine Below.setCell ?_ (by first | assumption | exact Nat.le_refl _ | omega | (simp; done) | (simp; omega)) _))) (fun hHeld => ?_)
              clear hK K
              try simp only [Act.put, List.getElem_toArray, List.getElem_cons_zero, List.getElem_cons_succ, List.setIfInBounds_toArray, List.set_cons_zero, List.set_cons_succ]
              refine wpAnyH_done (by kernel_rfl) ?_ _
              go_wp2_with fail
              go_meet
              exact ⟨A9, c9, _, HON.out⟩
            · skip
              clear hHeld
              go_simp
              refine hK.out _ _ (by exact KR.out _ (by repeat (first | assumption | exact Below.refl _ _ | refine Below.drew ?_ | refine Below.alloc ?_ (by first | assumption | exact Nat.le_refl _ | omega | (simp; done) | (simp; omega)) _ | refine Below.setCell ?_ (by first | assumption | exact Nat.le_refl _ | omega | (simp; done) | (simp; omega)) _))) (fun hHeld => ?_)
              clear hK K
              try simp only [Act.put, List.getElem_toArray, List.getElem_cons_zero, List.getElem_cons_succ, List.setIfInBounds_toArray, List.set_cons_zero, List.set_cons_succ]
              refine wpAnyH_ready (rs := [1]) (by kernel_rfl) (by simp) ?_
              refine AllReadyH.cons (o := _) rfl (fun K hK => ?_) AllReadyH.nil
              clear hHeld
              go_simp
              refine hK.out _ _ (by exact KR.out _ (by repeat (first | assumption | exact Below.refl _ _ | refine Below.drew ?_ | refine Below.alloc ?_ (by first | assumption | exact Nat.le_refl _ | omega | (simp; done) | (simp; omega)) _ | refine Below.setCell ?_ (by first | assumption | exact Nat.le_refl _ | omega | (simp; done) | (simp; omega)) _))) (fun hHeld => ?_)
              clear hK K
              try simp only [Act.put, List.getElem_toArray, List.getElem_cons_zero, List.getElem_cons_succ, List.setIfInBounds_toArray, List.set_cons_zero, List.set_cons_succ]
              refine wpAnyH_ready (rs := [5]) (by kernel_rfl) (by simp) ?_
              refine AllReadyH.cons (o := _) rfl (fun K hK => ?_) AllReadyH.nil
              clear hHeld
              refine step_append_rdK (by rfl) _ _ _ (by rfl) (b3 + 1) 28 i0 (.agg #[.string ⟨#[]⟩, .slice none 0 0]) 2 40 Tryz.underlying23 hi hz0 hz1 hz2 (by rfl) (by decide) (.slice Ax rs.length cx) rs.length vs (by rfl) (HO7.out.1.own.alloc _) (B := w7.heap.size + 1) (some ⟨w7.heap.size, 0, none⟩) 1 1 [.string r.id, .slice A5 r.data.length c5] (by rfl) (rd_new w7 _ _ _ rfl) (by rfl) (rec_one _ _ _ _) (by unfold maxLen; omega) (by omega) (by simp; omega) ?_
              intro v9 w9 ho9 hg9 _
              obtain ⟨A9, c9, rfl, _, _⟩ := own_slice ho9
              have O8 := HO7.out.1.step ((Below.refl w7.heap.size w7).alloc (Nat.le_refl _) (.cells #[.string r.id, .slice A5 r.data.length c5] 28))
              have ON := O8.add (HO7.out.2.alloc _) ho9 hg9
              have f9 := O8.four.grown hg9 (by intro e; have := (O8.own.lt b3 e.symm).1; omega)
              have hb9 : Below W1.heap.size W1 w9 := O8.below.grown hg9 O8.below.size (fun k hk => by have := (O8.own.lt k hk).1; have := O8.le; omega)
              obtain ⟨_, _, _, s3, sf⟩ := f9
              have s4 := sf 3
              have HON := Lib.hid ON
              clear O8 ON sf
              refine hK.out _ _ (by exact KR.out _ (by repeat (first | assumption | exact Below.refl _ _ | refine Below.drew ?_ | refine Below.alloc ?_ (by first | assumption | exact Nat.le_refl _ | omega | (simp; done) | (simp; omega)) _ | refine Below.setCell ?_ (by first | assumption | exact Nat.le_refl _ | omega | (simp; done) | (simp; omega)) _))) (fun hHeld => ?_)
              clear hK K
              try simp only [Act.put, List.getElem_toArray, List.getElem_cons_zero, List.getElem_cons_succ, List.setIfInBounds_toArray, List.set_cons_zero, List.set_cons_succ]
              refine wpAnyH_take (i := 6) (oi := _) (v := .pointer (some ⟨b3, 3, none⟩)) rfl (by kernel_rfl) (by kernel_rfl) (by kernel_rfl) (fun _ _ _ h => h) (Or.inl ⟨by rfl, fun W _ => rfl⟩) hHeld ?_
              try simp only [Act.put, List.getElem_toArray, List.getElem_cons_zero, List.getElem_cons_succ, List.setIfInBounds_toArray, List.set_cons_zero, List.set_cons_succ]
              refine wpAnyH_ready (rs := [7]) (by kernel_rfl) (by simp) ?_
              refine AllReadyH.cons (o := _) rfl (fun K hK => ?_) AllReadyH.nil
              clear hHeld
              go_simp
              refine hK.out _ _ (by exact KR.out _ (by repeat (first | assumption | exact Below.refl _ _ | refine Below.drew ?_ | refine Below.alloc ?_ (by first | assumption | exact Nat.le_refl _ | omega | (simp; done) | (simp; omega)) _ | refine Below.setCell ?_ (by first | assumption | exact Nat.le_refl _ | omega | (simp; done) | (simp; omega)) _))) (fun hHeld => ?_)
              clear hK K
              try simp only [Act.put, List.getElem_toArray, List.getElem_cons_zero, List.getElem_cons_succ, List.setIfInBounds_toArray, List.set_cons_zero, List.set_cons_succ]
              refine wpAnyH_done (by kernel_rfl) ?_ _
              go_wp2_with fail
              go_meet
              exact ⟨A9, c9, _, HON.out⟩
        case rest =>
          obtain ⟨A8, c8, vs8, O⟩ := hcut
          obtain ⟨rs8, hrs8⟩ : ∃ l, l = rs ++ [r] := ⟨_, rfl⟩
          rw [← hrs8] at O
          have hrt : rs8 = V := by rw [hrs8]; exact HRT.out
          have hbr := O.below
          clear hrs8
          have P := O.put (g := w.heap.size + 1 + 1) (by have := HF.out.z; omega) (.string t.name) (.int .i64 t.most) (.slice A3 m c3) (.slice A8 rs8.length c8)
          have BZ := below_four (DW.out wc hbr) (show w.heap.size ≤ w.heap.size + 1 + 1 by omega) (.string t.name) (.int .i64 t.most) (.slice A3 m c3) (.slice A8 rs8.length c8)
          have R := HF.out.o wc hbr
          have RZ := (((R.set0 (.string t.name)).set1 (.int .i64 t.most)).set2 (.slice A3 m c3)).set3 (.slice A8 rs8.length c8)
          have HE := Lib.hid (And.intro P (And.intro BZ (And.intro RZ hrt)))
          obtain ⟨z0, z1, z2, z3, zf⟩ := R
          have zf0 := zf 0
          have zf1 := zf 1
          have zf2 := zf 2
          have zf3 := zf 3
          obtain ⟨y0, y1, y2, y3, _⟩ := O.four
          clear hrt P BZ RZ zf O
          go_wp2
          obtain ⟨P, BZ, RZ, hrt⟩ := HE.out
          refine bodyPost_ret (v := .agg #[.string t.name, .int .i64 t.most, .slice A3 m c3, .slice A8 rs8.length c8]) ?_ rfl ?_
          rotate_left
          · first
              | exact ⟨A3, c3, A8, c8, by rw [← hrt], own_base P.1 (by have := HF.out.z; omega), by rw [← hrt]; exact P.2.mono (by have := HF.out.z; omega), BZ⟩
              | exact ⟨A3, c3, A8, ⟨c8, by rw [← hrt]⟩, own_base P.1 (by have := HF.out.z; omega), by rw [← hrt]; exact P.2.mono (by have := HF.out.z; omega), BZ⟩
          rw [results_cell1 rfl]
          exact load_tab1 _ _ RZ
end Go.Proofs.YtcgioepbooafcaaGreatDoor
