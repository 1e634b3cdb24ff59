/- The reference's Row and Clashes. Conditions: lengths within the model's. The reference's Clashes. Conditions: lengths within the model's; all data may be. Whether a table may be, as the reference asks it: pair by pair. Conditions: none. The reference's order of two strings: the order of bytes. Conditions: lengths below 2^63. -/
import Derived.Test.YtcgioepbooafcaaGreatDoorMR1
import Derived.Test.YtcgioepbooafcaaGreatDoorMFind
import Derived.BigQuiet
import Derived.Deep.QuietTactic
import Derived.Deep.Draws
namespace Go.Proofs.YtcgioepbooafcaaGreatDoor
section
open Go.RowKit
/-- a table as the reference reads it -/
structure RTab (w : World) (B : Nat) (t : TabC) (Au Ar : Option Addr) : Prop where
  us : Rd w B Au (sv t.us)
  rows : Recs w B Ar t.rows
  le : B ≤ w.heap.size
  wf : ∀ r ∈ t.rows, ∀ c ∈ r.data, CelW 2000000 c
  len : ∀ r ∈ t.rows, r.data.length ≤ 1000000
  ids : ∀ r ∈ t.rows, r.id.size ≤ maxLen
  ul : t.us.length ≤ 1000
  rl : t.rows.length ≤ 1000
theorem RTab.below {w w' : World} {B : Nat} {t : TabC} {Au Ar : Option Addr} (h : RTab w B t Au Ar) (q : Below w.heap.size w w') : RTab w' B t Au Ar :=
  ⟨h.us.thru q h.le, h.rows.thru q h.le, Nat.le_trans h.le q.size, h.wf, h.len, h.ids, h.ul, h.rl⟩
theorem RTab.row {w : World} {B : Nat} {t : TabC} {Au Ar : Option Addr} (h : RTab w B t Au Ar) {k : Nat} (hk : k < t.rows.length) :
    ∃ b off A' c, Ar = some ⟨b, off, none⟩ ∧ b < w.heap.size ∧ w.cell? ⟨b, off + k * 2, none⟩ = some (.string t.rows[k].id) ∧ w.cell? ⟨b, off + k * 2 + 1, none⟩ = some (.slice A' t.rows[k].data.length c) ∧ RRec w B t.rows[k] A' c := by
  obtain ⟨b, off, A', c, e, hb, h0, h1, hr⟩ := h.rows.at' hk
  exact ⟨b, off, A', c, e, Nat.lt_of_lt_of_le hb h.le, h0, h1, ⟨⟨hr.rd, h.le, h.len _ (List.getElem_mem hk), h.wf _ (List.getElem_mem hk)⟩, hr.cap, hr.cm⟩⟩
def isId (id : ByteArray) (x : RecC) : Bool := decide (x.id = id)
def rowI (rs : List RecC) (id : ByteArray) : Int := idxR (isId id) rs 0
theorem rowI_has (rs : List RecC) (id : ByteArray) : decide (0 ≤ rowI rs id) = Tb.hasId rs id := idxR_any _ _ _
/-- the table's box -/
theorem box_tab (w : World) (t : TabC) (Au : Option Addr) (cu : Nat) (Ar : Option Addr) (cr : Nat) {W1 W : World} (hW1 : W1 = w.alloc (.cells #[.string t.name, .int .i64 t.most, .slice Au t.us.length cu, .slice Ar t.rows.length cr] 25)) (q : Below W1.heap.size W1 W) :
    Four W w.heap.size (.string t.name) (.int .i64 t.most) (.slice Au t.us.length cu) (.slice Ar t.rows.length cr) := by
  subst hW1
  exact (Four.new w _ _ _ _ _).below q (by simp)
set_option maxRecDepth 100000 in
set_option maxHeartbeats 8000000 in
theorem rrow_any (t : TabC) (id : ByteArray) (Au : Option Addr) (cu : Nat) (Ar : Option Addr) (cr : Nat) (w : World) {B : Nat} (h : RTab w B t Au Ar) :
    Calls Tryz.prog 27 #[.agg #[.string t.name, .int .i64 t.most, .slice Au t.us.length cu, .slice Ar t.rows.length cr], .string id] w fun e w' => e = .returned (.int .i64 (rowI t.rows id)) ∧ Below w.heap.size w w' := by
  obtain ⟨W1, hW1⟩ : ∃ W1, W1 = w.alloc (.cells #[.string t.name, .int .i64 t.most, .slice Au t.us.length cu, .slice Ar t.rows.length cr] 25) := ⟨_, rfl⟩
  have hb1 : Below w.heap.size w W1 := by rw [hW1]; exact (Below.refl _ _).alloc (Nat.le_refl _) _
  have f := box_tab w t Au cu Ar cr hW1 (Below.refl _ _)
  obtain ⟨V, hV⟩ : ∃ V, rowI t.rows id = V := ⟨_, rfl⟩
  rw [hV]
  have HV := Lib.hid hV
  have HB := Lib.hid hb1
  have HW1 := Lib.hid hW1
  have HT := Lib.hid (h.below hb1)
  have hrl := h.rl
  obtain ⟨_, _, _, f3, _⟩ := f
  clear h hV hb1 hW1
  go_enter Tryz.func27, Tryz.ntmps27
  go_wp2
  rw [← HW1.out]
  go_loop [5] (fun i => ∃ k : Nat, k ≤ t.rows.length ∧ i = .int .i64 k ∧ idxR (isId id) (t.rows.drop k) k = V) (fun i => t.rows.length - (intOf i).toNat)
  case atStart => exact ⟨0, Nat.zero_le _, rfl, by rw [List.drop_zero]; exact HV.out⟩
  case round =>
    obtain ⟨k, hk, rfl, hd⟩ := hrel
    by_cases hlt : k < t.rows.length
    · rw [idxR_drop hlt] at hd
      obtain ⟨b, off, A', c, rfl, hbl, c0, c1, _⟩ := HT.out.row hlt
      obtain ⟨y, hy⟩ : ∃ y, t.rows[k].id = y := ⟨_, rfl⟩
      rw [isId, hy] at hd
      rw [hy] at c0
      have hbe : (y.toList == id.toList) = decide (y = id) := ba_beq ..
      obtain ⟨X, hX⟩ : ∃ X, decide (y = id) = X := ⟨_, rfl⟩
      rw [hX] at hd hbe
      have HD := Lib.hid hd
      clear hd hy hX c1
      cases X with
      | true =>
        obtain rfl : V = (k : Int) := by have := HD.out; rw [if_pos rfl] at this; exact this.symm
        go_wp2
        go_ret
        exact ⟨rfl, HB.out⟩
      | false =>
        go_wp2
        go_round
        case rel => exact ⟨k + 1, hlt, by go_num, by have := HD.out; rw [if_neg (by simp)] at this; exact this⟩
        case measure => simp [intOf]; omega
    · obtain rfl : k = t.rows.length := by omega
      rw [List.drop_of_length_le (Nat.le_refl _)] at hd
      obtain rfl : V = -1 := hd.symm
      clear hd
      go_wp2
      go_ret
      exact ⟨rfl, HB.out⟩
end
section
open Go.RowKit
def clashX (us : List ByteArray) (r x : RecC) : Bool := !decide (x.id = r.id) && Tb.clash ordC us x r
/-- a table's box and a record's -/
def Box2r (w : World) (t : TabC) (r : RecC) (Au : Option Addr) (cu : Nat) (Ar : Option Addr) (cr : Nat) (A : Option Addr) (c : Nat) : World :=
  (w.alloc (.cells #[.string t.name, .int .i64 t.most, .slice Au t.us.length cu, .slice Ar t.rows.length cr] 25)).alloc (.cells #[.string r.id, .slice A r.data.length c] 28)
structure F2 (w W1 : World) (t : TabC) (r : RecC) (Au : Option Addr) (cu : Nat) (Ar : Option Addr) (cr : Nat) (A : Option Addr) (c : Nat) : Prop where
  b : Below w.heap.size w W1
  z : W1.heap.size = w.heap.size + 1 + 1
  t : ∀ W, Below W1.heap.size W1 W → Four W w.heap.size (.string t.name) (.int .i64 t.most) (.slice Au t.us.length cu) (.slice Ar t.rows.length cr)
  r : ∀ W, Below W1.heap.size W1 W → Pair2 W (w.heap.size + 1) (.string r.id) (.slice A r.data.length c)
theorem f2_mk (w : World) (t : TabC) (r : RecC) (Au : Option Addr) (cu : Nat) (Ar : Option Addr) (cr : Nat) (A : Option Addr) (c : Nat) : F2 w (Box2r w t r Au cu Ar cr A c) t r Au cu Ar cr A c := by
  have hz : (Box2r w t r Au cu Ar cr A c).heap.size = w.heap.size + 1 + 1 := by simp [Box2r]
  refine ⟨((Below.refl _ _).alloc (Nat.le_refl _) _).alloc (by simp) _, hz, fun W q => ?_, fun W q => ?_⟩
  · have f := (Four.new w (.string t.name) (.int .i64 t.most) (.slice Au t.us.length cu) (.slice Ar t.rows.length cr) 25).below ((Below.refl _ _).alloc (Nat.le_refl _) (.cells #[.string r.id, .slice A r.data.length c] 28)) (by simp)
    exact f.below q (by omega)
  · have g := Pair2.new (w.alloc (.cells #[.string t.name, .int .i64 t.most, .slice Au t.us.length cu, .slice Ar t.rows.length cr] 25)) (.string r.id) (.slice A r.data.length c) 28
    have e : (w.alloc (.cells #[.string t.name, .int .i64 t.most, .slice Au t.us.length cu, .slice Ar t.rows.length cr] 25)).heap.size = w.heap.size + 1 := by simp
    rw [e] at g
    exact g.below q (by omega)
set_option maxRecDepth 100000 in
set_option maxHeartbeats 8000000 in
theorem rclashes_any (t : TabC) (r : RecC) (Au : Option Addr) (cu : Nat) (Ar : Option Addr) (cr : Nat) (A : Option Addr) (c : Nat) (w : World) {B B' : Nat} (h : RTab w B t Au Ar) (hm : ∀ x ∈ t.rows, mayC x.data = true) (hr : RRec w B' r A c) (hmr : mayC r.data = true) :
    Calls Tryz.prog 64 #[.agg #[.string t.name, .int .i64 t.most, .slice Au t.us.length cu, .slice Ar t.rows.length cr], .agg #[.string r.id, .slice A r.data.length c]] w fun e w' => e = .returned (.bool (Tb.clashes ordC t r)) ∧ Below w.heap.size w w' := by
  obtain ⟨W1, hW1⟩ : ∃ W1, W1 = Box2r w t r Au cu Ar cr A c := ⟨_, rfl⟩
  have F := f2_mk w t r Au cu Ar cr A c
  rw [← hW1] at F
  have HF := Lib.hid F
  have dW : ∀ W, Below W1.heap.size W1 W → Below w.heap.size w W := fun W q => F.b.trans (q.mono F.b.size)
  obtain ⟨V, hV⟩ : ∃ V, Tb.clashes ordC t r = V := ⟨_, rfl⟩
  rw [hV]
  have hV' : t.rows.any (clashX t.us r) = V := hV
  have HV := Lib.hid hV'
  have DW := Lib.hid dW
  have HW1 := Lib.hid hW1
  have HH := Lib.hid (And.intro h (And.intro hm (And.intro hr hmr)))
  have hrl := h.rl
  have hsz := F.b.size
  obtain ⟨f0, f1, f2, f3, _⟩ := F.t W1 (Below.refl _ _)
  obtain ⟨p0, p1⟩ := F.r W1 (Below.refl _ _)
  clear h hm hr hmr hV hV' dW hW1 F
  unfold Box2r at HW1
  go_enter Tryz.func64, Tryz.ntmps64
  go_wp2
  rw [← HW1.out]
  go_loopw [5] (fun i wr => ∃ k : Nat, k ≤ t.rows.length ∧ i = .int .i64 k ∧ (t.rows.drop k).any (clashX t.us r) = V ∧ Below W1.heap.size W1 wr) (fun i _ => t.rows.length - (intOf i).toNat)
  case atStart => exact ⟨0, Nat.zero_le _, rfl, by rw [List.drop_zero]; exact HV.out, Below.refl _ _⟩
  case round =>
    obtain ⟨k, hk, rfl, hd, hbr⟩ := hrel
    clear f0 f1 f2 f3 p0 p1
    by_cases hlt : k < t.rows.length
    · rw [any_dropB hlt, clashX] at hd
      have hlI : (k : Int) < t.rows.length := by omega
      obtain ⟨h, hm, hr, hmr⟩ := HH.out
      obtain ⟨b, off, A', c', rfl, hbl, c0, c1, hx⟩ := h.row hlt
      have hmx := hm _ (List.getElem_mem hlt)
      obtain ⟨x, hxe⟩ : ∃ x, t.rows[k] = x := ⟨_, rfl⟩
      rw [hxe] at hd c0 c1 hx hmx
      have kr : ∀ W, Below W1.heap.size W1 W → W.cell? ⟨b, off + k * 2, none⟩ = some (.string x.id) ∧ W.cell? ⟨b, off + k * 2 + 1, none⟩ = some (.slice A' x.data.length c') := fun W q =>
        ⟨((DW.out W q).cell (p := ⟨b, off + k * 2, none⟩) hbl).trans c0, ((DW.out W q).cell (p := ⟨b, off + k * 2 + 1, none⟩) hbl).trans c1⟩
      have kc := fun W (q : Below W1.heap.size W1 W) => rclash_any t.us x r Au cu A' c' A c W (h.us.thru (DW.out W q) h.le) (Nat.le_trans h.le (DW.out W q).size) h.ul (hx.below (DW.out W q)) hmx (hr.below (DW.out W q)) hmr
      have kF : ∀ W, Below W1.heap.size W1 W → W.cell? ⟨w.heap.size, 2, none⟩ = some (.slice Au t.us.length cu) ∧ W.cell? ⟨w.heap.size, 3, none⟩ = some (.slice (some ⟨b, off, none⟩) t.rows.length cr) ∧ W.cell? ⟨w.heap.size + 1, 0, none⟩ = some (.string r.id) ∧ W.cell? ⟨w.heap.size + 1, 1, none⟩ = some (.slice A r.data.length c) ∧ W.cell? ⟨b, off + k * 2, none⟩ = some (.string x.id) ∧ W.cell? ⟨b, off + k * 2 + 1, none⟩ = some (.slice A' x.data.length c') := fun W q =>
        ⟨(HF.out.t W q).c2, (HF.out.t W q).c3, (HF.out.r W q).1, (HF.out.r W q).2, (kr W q).1, (kr W q).2⟩
      obtain ⟨C, hC⟩ : ∃ C, Tb.clash ordC t.us x r = C := ⟨_, rfl⟩
      rw [hC] at hd
      simp only [hC] at kc
      have KC := Lib.hid kc
      have KF := Lib.hid kF
      obtain ⟨f2, f3, p0, p1, r0, r1⟩ := kF wr hbr
      have hne : (!(x.id.toList == r.id.toList)) = !decide (x.id = r.id) := by rw [ba_beq]
      obtain ⟨D, hD⟩ : ∃ D, decide (x.id = r.id) = D := ⟨_, rfl⟩
      rw [hD] at hd hne
      have HD := Lib.hid hd
      clear h hm hr hmr hx hmx hxe c0 c1 kr kc kF hC hd hD
      cases D with
      | true =>
        have hne2 : (x.id.toList == r.id.toList) = true := by simpa using hne
        have hd := HD.out
        rw [Bool.not_true, Bool.false_and, Bool.false_or] at hd
        have HD2 := Lib.hid hd
        clear hd
        go_wp2
        first | go_quiet (fail) | fail
        go_wp2
        exact ⟨⟨k + 1, hlt, by go_num, HD2.out, hbr.drewN' _⟩, by simp [intOf]; omega⟩
      | false =>
        have hne2 : (x.id.toList == r.id.toList) = false := by simpa using hne
        have hd := HD.out
        rw [Bool.not_false, Bool.true_and] at hd
        have HD2 := Lib.hid hd
        clear hd hne
        go_wp2
        go_region_held3 (fun W => W.cell? ⟨w.heap.size, 2, none⟩ = some (.slice Au t.us.length cu) ∧ W.cell? ⟨w.heap.size, 3, none⟩ = some (.slice (some ⟨b, off, none⟩) t.rows.length cr) ∧ W.cell? ⟨w.heap.size + 1, 0, none⟩ = some (.string r.id) ∧ W.cell? ⟨w.heap.size + 1, 1, none⟩ = some (.slice A r.data.length c) ∧ W.cell? ⟨b, off + k * 2, none⟩ = some (.string x.id) ∧ W.cell? ⟨b, off + k * 2 + 1, none⟩ = some (.slice A' x.data.length c'))
          (exact KF.out _ (by repeat (first | assumption | exact Below.refl _ _ | refine Below.drew ?_ | refine Below.alloc ?_ (by first | assumption | exact Nat.le_refl _ | omega | (simp; done) | (simp; omega)) _ | refine Below.setCell ?_ (by first | assumption | exact Nat.le_refl _ | omega | (simp; done) | (simp; omega)) _)))
          ((go_at_call 53; (with_reducible refine (KC.out _ ?_).mono ?_); exact (by repeat (first | assumption | exact Below.refl _ _ | refine Below.drew ?_ | refine Below.alloc ?_ (by first | assumption | exact Nat.le_refl _ | omega | (simp; done) | (simp; omega)) _ | refine Below.setCell ?_ (by first | assumption | exact Nat.le_refl _ | omega | (simp; done) | (simp; omega)) _)); rintro e w5 ⟨rfl, hb5⟩; have hq5 : Below W1.heap.size W1 w5 := Below.trans (by repeat (first | assumption | exact Below.refl _ _ | refine Below.drew ?_ | refine Below.alloc ?_ (by first | assumption | exact Nat.le_refl _ | omega | (simp; done) | (simp; omega)) _ | refine Below.setCell ?_ (by first | assumption | exact Nat.le_refl _ | omega | (simp; done) | (simp; omega)) _)) (hb5.mono (by have := hbr.size; simp; omega))))
        cases C with
        | true =>
          obtain rfl : V = true := by have := HD2.out; rw [Bool.true_or] at this; exact this.symm
          go_wp2
          go_ret
          exact ⟨rfl, DW.out _ hq5⟩
        | false =>
          go_wp2
          go_roundw
          case rel => exact ⟨k + 1, hlt, by go_num, by have := HD2.out; rwa [Bool.false_or] at this, hq5⟩
          case measure => simp [intOf]; omega
    · obtain rfl : k = t.rows.length := by omega
      rw [List.drop_of_length_le (Nat.le_refl _)] at hd
      obtain rfl : V = false := hd.symm
      obtain ⟨f0, f1, f2, f3, _⟩ := HF.out.t wr hbr
      clear hd
      go_wp2
      go_ret
      exact ⟨rfl, DW.out _ hbr⟩
end
section
open Go.RowKit
def goodAt (t : TabC) (i : Nat) (h : i < t.rows.length) : Prop := oneR t.rows[i] = true ∧ (∀ _ : 0 < i, slt (t.rows[i - 1]'(by omega)).id t.rows[i].id = true) ∧ ∀ k (hk : k < i), Tb.clash ordC t.us t.rows[i] (t.rows[k]'(by omega)) = false
def MayQ (t : TabC) : Prop := 1 ≤ t.most ∧ t.most ≤ 64 ∧ (t.rows.length : Int) ≤ t.most ∧ (∀ i (h : i < t.us.length) k (hk : k < i), t.us[i] ≠ t.us[k]'(by omega)) ∧ ∀ i (h : i < t.rows.length), goodAt t i h
theorem mayQ_iff (t : TabC) : mayT t = true ↔ MayQ t := by
  rw [mayT_iff]
  constructor
  · rintro ⟨h1, h2, h3, h4, h5, h6, h7⟩
    have hS := List.pairwise_iff_getElem.1 h4
    refine ⟨h1, h2, h3, fun i h k hk e => List.pairwise_iff_getElem.1 h5 k i (by omega) h hk e.symm, fun i h => ⟨h6 _ (List.getElem_mem h), fun h0 => hS (i - 1) i (by omega) h (by omega), fun k hk => ?_⟩⟩
    exact Tb.clashes_false.1 (h7 _ (List.getElem_mem (by omega : k < t.rows.length))) _ (List.getElem_mem h) (Tb.lt_ne (O := ordC) (hS k i (by omega) h hk)).symm
  · rintro ⟨h1, h2, h3, h4, h5⟩
    have hr : rises (idsL t.rows) = true := by
      rw [rises_iff]
      intro i hi
      rw [idsL_len] at hi
      have := (h5 (i + 1) hi).2.1 (by omega)
      rw [idsL_get (by rw [idsL_len]; omega) (by omega), idsL_get (by rw [idsL_len]; exact hi) hi]
      simpa using this
    refine ⟨h1, h2, h3, mayT_S.1 hr, List.pairwise_iff_getElem.2 fun i j hi hj hij e => h4 j hj i hij e.symm, fun r hr => ?_, fun r hr => ?_⟩
    · obtain ⟨i, hi, rfl⟩ := List.getElem_of_mem hr
      exact (h5 i hi).1
    · rw [Tb.clashes_false]
      intro x hx hne
      obtain ⟨j, hj, rfl⟩ := List.getElem_of_mem hr
      obtain ⟨i, hi, rfl⟩ := List.getElem_of_mem hx
      rcases Nat.lt_trichotomy j i with h | h | h
      · exact (h5 i hi).2.2 j h
      · subst h; exact absurd rfl hne
      · rw [Tb.clash_symm]
        exact (h5 j hj).2.2 i h
theorem oneR_may {r : RecC} (h : oneR r = true) : mayC r.data = true := by
  unfold oneR at h
  rw [Bool.and_eq_true] at h
  exact h.1
end
section
namespace Ls
open Go.RowKit
theorem lt_at (l m : List UInt8) (k : Nat) (hk : k < l.length) (hm : k < m.length) (he : l.take k = m.take k) :
    (l[k] < m[k] → l < m) ∧ (m[k] < l[k] → m < l) := by
  induction k generalizing l m with
  | zero =>
    match l, m with
    | a :: l, b :: m => exact ⟨fun h => List.Lex.rel h, fun h => List.Lex.rel h⟩
  | succ k ih =>
    match l, m with
    | a :: l, b :: m =>
      simp only [List.take_succ_cons, List.cons.injEq] at he
      obtain ⟨rfl, he⟩ := he
      have := ih l m (by simpa using hk) (by simpa using hm) he
      exact ⟨fun h => List.Lex.cons (this.1 h), fun h => List.Lex.cons (this.2 h)⟩

theorem lt_pre (l m : List UInt8) (k : Nat) (hk : k = l.length ∨ k = m.length) (hkl : k ≤ l.length) (hkm : k ≤ m.length) (he : l.take k = m.take k) : l < m ↔ l.length < m.length := by
  rcases hk with rfl | rfl
  · rw [List.take_length] at he
    rw [he, List.length_take]
    constructor
    · intro h
      by_cases hlt : l.length < m.length
      · omega
      · rw [List.take_of_length_le (by omega)] at h
        exact absurd h (List.lt_irrefl _)
    · intro h
      have hlt : l.length < m.length := by omega
      have e : m = m.take l.length ++ m.drop l.length := (List.take_append_drop _ _).symm
      generalize m.take l.length = x at *
      cases hd : m.drop l.length with
      | nil => simp at hd; omega
      | cons c r =>
        rw [e, hd]
        clear e hd he
        induction x with
        | nil => exact List.Lex.nil
        | cons a x ih => exact List.Lex.cons (ih)
  · rw [List.take_length] at he
    rw [← he, List.length_take]
    constructor
    · intro h
      have e : l = l.take m.length ++ l.drop m.length := (List.take_append_drop _ _).symm
      exfalso
      generalize l.take m.length = x at *
      generalize l.drop m.length = y at *
      rw [e] at h
      clear he hkl hkm e
      induction x with
      | nil => cases h
      | cons a x ih =>
        cases h with
        | rel h => exact absurd h (by simp)
        | cons h => exact ih h
    · intro h; omega

theorem data_get (s : ByteArray) (k : Nat) (h : k < s.size) : s.data.toList[k]'(by simpa using h) = s[k] := rfl
theorem take_snoc (s : ByteArray) (k : Nat) (h : k < s.size) : s.data.toList.take (k + 1) = s.data.toList.take k ++ [s[k]] := by
  rw [List.take_succ_eq_append_getElem (by simpa using h)]; rfl

theorem less_at (a b : ByteArray) (k : Nat) (h1 : k < a.size) (h2 : k < b.size) (he : a.data.toList.take k = b.data.toList.take k) (hne : a[k] ≠ b[k]) :
    slt a b = decide ((a[k].toNat : Int) < b[k].toNat) := by
  have h := lt_at a.data.toList b.data.toList k (by simpa using h1) (by simpa using h2) he
  rw [data_get a k h1, data_get b k h2] at h
  rw [Bool.eq_iff_iff, slt_iff, decide_eq_true_iff]
  constructor
  · intro hl
    rcases Nat.lt_trichotomy a[k].toNat b[k].toNat with h3 | h3 | h3
    · omega
    · exact absurd (UInt8.toNat_inj.1 h3) hne
    · exact absurd (List.lt_trans hl (h.2 (UInt8.lt_iff_toNat_lt.2 h3))) (List.lt_irrefl _)
  · intro hl
    exact h.1 (UInt8.lt_iff_toNat_lt.2 (by omega))
theorem less_end (a b : ByteArray) (k : Nat) (h : k = a.size ∨ k = b.size) (h1 : k ≤ a.size) (h2 : k ≤ b.size) (he : a.data.toList.take k = b.data.toList.take k) :
    slt a b = decide ((a.size : Int) < b.size) := by
  have h := lt_pre a.data.toList b.data.toList k (by simpa using h) (by simpa using h1) (by simpa using h2) he
  rw [Bool.eq_iff_iff, slt_iff, decide_eq_true_iff, h]
  simp

set_option maxHeartbeats 1000000 in
theorem less_any (a b : ByteArray) (w : World) (ha : a.size ≤ maxLen) (_hb : b.size ≤ maxLen) :
    Calls Tryz.prog 52 #[.string a, .string b] w fun e w' => e = .returned (.bool (slt a b)) ∧ ∃ n, w' = w.drewN n := by
  unfold maxLen at ha _hb
  go_enter Tryz.func52, Tryz.ntmps52
  go_wp2
  go_loopw [5] (fun i wr => ∃ k q : Nat, k ≤ a.size ∧ k ≤ b.size ∧ i = .int .i64 k ∧ a.data.toList.take k = b.data.toList.take k ∧ wr = w.drewN q) (fun i _ => a.size - (intOf i).toNat)
  case atStart => exact ⟨0, 0, Nat.zero_le _, Nat.zero_le _, rfl, rfl, rfl⟩
  case round =>
    obtain ⟨k, q, hka, hkb, rfl, he, rfl⟩ := hrel
    have HE := Lib.hid he
    clear he
    by_cases hlt : k < a.size ∧ k < b.size
    · obtain ⟨h1, h2⟩ := hlt
      go_wp2
      go_quiet (fail)
      go_wp2
      · have hne : ((↑a[k].toNat : Int) != ↑b[k].toNat) = true := by assumption
        go_quiet (fail)
        go_wp2
        go_ret
        refine ⟨ret_bool ?_, by simp only [World.drewN_drewN]; exact ⟨_, rfl⟩⟩
        rw [less_at a b k h1 h2 HE.out (by intro h; rw [h] at hne; simp at hne)]; simp
      · have heq : ((↑a[k].toNat : Int) != ↑b[k].toNat) = false := by assumption
        refine ⟨⟨k + 1, _, h1, h2, by go_num, ?_, rfl⟩, by simp [intOf]; omega⟩
        rw [take_snoc a k h1, take_snoc b k h2, HE.out]
        have : a[k] = b[k] := by
          apply UInt8.toNat_inj.1
          have := bne_eq_false_iff_eq.1 heq
          omega
        rw [this]
    · have h' : k = a.size ∨ k = b.size := by omega
      have HS := Lib.hid (less_end a b k h' hka hkb HE.out)
      by_cases h1 : k < a.size
      · have h2 : ¬ k < b.size := by omega
        go_wp2
        go_ret
        exact ⟨ret_bool (by rw [HS.out]; simp <;> omega), _, rfl⟩
      · go_wp2
        go_ret
        exact ⟨ret_bool (by rw [HS.out]; simp <;> omega), _, rfl⟩

end Ls
end
end Go.Proofs.YtcgioepbooafcaaGreatDoor
