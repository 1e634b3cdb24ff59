/- The reference's GreatRecord, Great, SameRecord, Same. Conditions: lengths within the model's. The reference's Great of a table. Conditions: lengths within the model's. The reference's Same of tables. Conditions: lengths within the model's. Put, Set, Drop, Get as the plain laws tell them. Conditions: none. -/
import Derived.Test.YtcgioepbooafcaaGreatDoorTPut
namespace Go.Proofs.YtcgioepbooafcaaGreatDoor
section
open Go.RowKit
def greatR (r : RecC) : Bool := decide (300 < r.id.size) || greatC r.data 60
def longB (s : ByteArray) : Bool := decide (300 < s.size)
def great2 (t : TabC) : Bool := (t.us.take 20).any longB || (decide (12 < t.rows.length) || decide (10 < t.us.length) || decide (300 < t.name.size))
def greatT (t : TabC) : Bool := (t.rows.take 20).any greatR || great2 t
set_option maxHeartbeats 2000000 in
theorem great_rec (r : RecC) (A : Option Addr) (c : Nat) (w : World) {B : Nat} (hr : Rd w B A (cv r.data)) (hB : B ≤ w.heap.size) (hn : r.data.length ≤ maxLen) :
    Calls Tryz.prog 5 #[.agg #[.string r.id, .slice A r.data.length c]] w fun e w' => e = .returned (.bool (greatR r)) ∧ Below w.heap.size w w' := by
  have hb : Below w.heap.size w (w.alloc (.cells #[.string r.id, .slice A r.data.length c] 28)) := (Below.refl _ _).alloc (Nat.le_refl _) _
  have cg := great_ref A c 60 _ (hr.thru hb hB) hn (by omega)
  have HB := Lib.hid hb
  by_cases h3 : 300 < r.id.size
  · have hv : greatR r = true := by simp [greatR, h3]
    rw [hv]
    have h3I : decide ((300 : Int) < r.id.size) = true := by simp; omega
    obtain ⟨n, hN⟩ : ∃ n, r.data.length = n := ⟨_, rfl⟩
    rw [hN]
    clear hv hr hb cg hN h3
    go_enter Tryz.func5, Tryz.ntmps5
    go_wp2
    go_ret
    exact ⟨rfl, (Below.refl _ _).alloc (Nat.le_refl _) _⟩
  · have hv : greatR r = greatC r.data 60 := by simp [greatR, h3]
    rw [hv]
    have h3I : decide ((300 : Int) < r.id.size) = false := by simp; omega
    obtain ⟨V, hV⟩ : ∃ V, greatC r.data 60 = V := ⟨_, rfl⟩
    obtain ⟨n, hN⟩ : ∃ n, r.data.length = n := ⟨_, rfl⟩
    rw [hV, hN] at cg
    rw [hV, hN]
    rw [hN] at HB
    clear hv hr hb hN hV h3
    go_enter Tryz.func5, Tryz.ntmps5
    go_wp2_with fail
    refine cg.mono ?_
    rintro e w1 ⟨rfl, rfl⟩
    go_wp2
    go_ret
    exact ⟨rfl, HB.out⟩
def sameR (a b : RecC) : Bool := decide (a.id = b.id) && sameC a.data b.data
theorem sameR_iff (a b : RecC) : sameR a b = true ↔ a = b := by
  unfold sameR
  rw [Bool.and_eq_true, decide_eq_true_iff, sameC_iff]
  constructor
  · rintro ⟨h1, h2⟩
    cases a; cases b
    simp only at h1 h2
    rw [h1, h2]
  · rintro rfl
    exact ⟨rfl, rfl⟩
set_option maxHeartbeats 2000000 in
theorem same_rec (a b : RecC) (A A' : Option Addr) (c c' : Nat) (w : World) {B B' : Nat} (ha : Rd w B A (cv a.data)) (hb : Rd w B' A' (cv b.data)) (hB : B ≤ w.heap.size) (hB' : B' ≤ w.heap.size) (hn : a.data.length ≤ 1000000000) :
    Calls Tryz.prog 15 #[.agg #[.string a.id, .slice A a.data.length c], .agg #[.string b.id, .slice A' b.data.length c']] w fun e w' => e = .returned (.bool (sameR a b)) ∧ Below w.heap.size w w' := by
  obtain ⟨W1, hW1⟩ : ∃ W1, W1 = (w.alloc (.cells #[.string a.id, .slice A a.data.length c] 28)).alloc (.cells #[.string b.id, .slice A' b.data.length c'] 28) := ⟨_, rfl⟩
  have hw1 : Below w.heap.size w W1 := by rw [hW1]; exact ((Below.refl _ _).alloc (Nat.le_refl _) _).alloc (by simp) _
  have cs := same_ref A A' c c' W1 (ha.thru hw1 hB) (hb.thru hw1 hB') (Nat.le_trans hB hw1.size) (Nat.le_trans hB' hw1.size) hn
  have HB := Lib.hid hw1
  have hid : (a.id.toList == b.id.toList) = decide (a.id = b.id) := by
    rw [Bool.eq_iff_iff, beq_iff_eq, decide_eq_true_iff]
    exact ⟨fun e => ba_ext e, fun e => by rw [e]⟩
  unfold sameR
  obtain ⟨V, hV⟩ : ∃ V, sameC a.data b.data = V := ⟨_, rfl⟩
  obtain ⟨n, hN⟩ : ∃ n, a.data.length = n := ⟨_, rfl⟩
  obtain ⟨m, hM⟩ : ∃ m, b.data.length = m := ⟨_, rfl⟩
  rw [hV] at cs ⊢
  rw [hN, hM] at cs hW1 ⊢
  clear ha hb hw1 hV hN hM
  cases hd : decide (a.id = b.id) with
  | true =>
    rw [hd] at hid
    simp only [Bool.true_and]
    clear hd
    subst hW1
    go_enter Tryz.func15, Tryz.ntmps15
    go_wp2_with fail
    refine cs.mono ?_
    rintro e w1 ⟨rfl, hb1⟩
    go_wp2
    go_ret
    exact ⟨rfl, HB.out.trans (hb1.mono HB.out.size)⟩
  | false =>
    rw [hd] at hid
    simp only [Bool.false_and]
    clear hd
    subst hW1
    go_enter Tryz.func15, Tryz.ntmps15
    go_wp2
    go_ret
    exact ⟨rfl, HB.out⟩
end
section
open Go.RowKit
theorem any_take_hit {α : Type} {p : α → Bool} {l : List α} {k m : Nat} (h : k < l.length) (hm : k < m) (hp : p l[k] = true) : (l.take m).any p = true := by
  rw [List.any_eq_true]
  exact ⟨l[k], List.mem_iff_getElem.2 ⟨k, by rw [List.length_take]; omega, by simp⟩, hp⟩
theorem any_take_miss {α : Type} {p : α → Bool} {l : List α} {m : Nat} (h : ∀ j, j < m → ∀ g : j < l.length, p l[j] = false) : (l.take m).any p = false := by
  rw [List.any_eq_false]
  intro c hc
  obtain ⟨k, hk, rfl⟩ := List.getElem_of_mem hc
  rw [List.length_take] at hk
  rw [List.getElem_take, h k (by omega) (by omega)]
  simp
set_option maxHeartbeats 8000000 in
theorem great_t (t : TabC) (Au : Option Addr) (cu : Nat) (Ar : Option Addr) (cr : Nat) (w : World) {B : Nat} (hu : Rd w B Au (sv t.us)) (hr : Recs w B Ar t.rows) (hB : B ≤ w.heap.size) (hun : t.us.length ≤ maxLen) (hrn : t.rows.length ≤ maxLen) :
    Calls Tryz.prog 4 #[.agg #[.string t.name, .int .i64 t.most, .slice Au t.us.length cu, .slice Ar t.rows.length cr]] w fun e w' => e = .returned (.bool (greatT t)) ∧ Below w.heap.size w w' := by
  unfold maxLen at hun hrn
  obtain ⟨n, hn⟩ : ∃ n, t.rows.length = n := ⟨_, rfl⟩
  obtain ⟨m, hm⟩ : ∃ m, t.us.length = m := ⟨_, rfl⟩
  obtain ⟨W1, hW1⟩ : ∃ W1, W1 = w.alloc (.cells #[.string t.name, .int .i64 t.most, .slice Au m cu, .slice Ar n cr] 25) := ⟨_, rfl⟩
  have hw1 : Below w.heap.size w W1 := by rw [hW1]; exact (Below.refl _ _).alloc (Nat.le_refl _) _
  have hz1 : W1.heap.size = w.heap.size + 1 := by rw [hW1]; simp
  have hk : ∀ W, Below W1.heap.size W1 W → Four W w.heap.size (.string t.name) (.int .i64 t.most) (.slice Au m cu) (.slice Ar n cr) := fun W q => by
    rw [hW1] at q
    exact (Four.new w _ _ _ _ _).below q (by simp)
  obtain ⟨V, hV⟩ : ∃ V, greatT t = V := ⟨_, rfl⟩
  obtain ⟨V2, hV2⟩ : ∃ V2, great2 t = V2 := ⟨_, rfl⟩
  rw [hV]
  have G1 : ∀ k (_ : k < t.rows.length), k < 20 → greatR t.rows[k] = true → V = true := fun k h1 h2 h3 => by
    rw [← hV, greatT, any_take_hit h1 h2 h3, Bool.true_or]
  have G2 : (∀ j, j < 20 → ∀ g : j < t.rows.length, greatR t.rows[j] = false) → V = V2 := fun h => by
    rw [← hV, greatT, any_take_miss h, Bool.false_or, hV2]
  have G3 : ∀ k (_ : k < t.us.length), k < 20 → longB t.us[k] = true → V2 = true := fun k h1 h2 h3 => by
    rw [← hV2, great2, any_take_hit h1 h2 h3, Bool.true_or]
  have G4 : (∀ j, j < 20 → ∀ g : j < t.us.length, longB t.us[j] = false) → V2 = (decide (12 < n) || decide (10 < m) || decide (300 < t.name.size)) := fun h => by
    rw [← hV2, great2, any_take_miss h, Bool.false_or, hn, hm]
  have HG1 := Lib.hid G1
  have HG2 := Lib.hid G2
  have HG3 := Lib.hid G3
  have HG4 := Lib.hid G4
  have HK := Lib.hid hk
  have HB := Lib.hid hw1
  have HH := Lib.hid (And.intro hn (And.intro hm (And.intro hu (And.intro hr hB))))
  have a0 := hk W1 (Below.refl _ _)
  have HZ := Lib.hid hz1
  rw [hn] at hrn ⊢
  rw [hm] at hun ⊢
  clear G1 G2 G3 G4 hk hw1 hu hr hB hn hm hV hV2 a0 hz1
  subst hW1
  go_enter Tryz.func4, Tryz.ntmps4
  go_wp2
  go_loopw [3] (fun i wr => ∃ k : Nat, k ≤ n ∧ k ≤ 20 ∧ i = .int .i64 k ∧ (∀ j, j < k → ∀ h : j < t.rows.length, greatR t.rows[j] = false) ∧ Below (w.alloc (.cells #[.string t.name, .int .i64 t.most, .slice Au m cu, .slice Ar n cr] 25)).heap.size (w.alloc (.cells #[.string t.name, .int .i64 t.most, .slice Au m cu, .slice Ar n cr] 25)) wr) (fun i _ => n - (intOf i).toNat)
  case atStart => exact ⟨0, Nat.zero_le _, Nat.zero_le _, rfl, fun j hj => by omega, Below.refl _ _⟩
  case round =>
    obtain ⟨k, hk, hkm, rfl, hj, hbr⟩ := hrel
    have HJ := Lib.hid hj
    clear hj
    obtain ⟨hn, hm, hu, hr, hB⟩ := HH.out
    have F := HK.out wr hbr
    by_cases hlt : k < n ∧ k < 20
    · obtain ⟨hlt, hlm⟩ := hlt
      have hk1 : k < t.rows.length := by rw [hn]; exact hlt
      have d1 := HB.out.trans (hbr.mono HB.out.size)
      obtain ⟨b, off, A', c', e, hbl, g0, g1, hri⟩ := (hr.thru d1 hB).at' hk1
      subst e
      have hlI : (k : Int) < n := by omega
      have hd1 : decide ((k : Int) < n) = true := by simp; omega
      have hd2 : decide ((k : Int) < 20) = true := by simp; omega
      have cr' := great_rec t.rows[k] A' c' wr hri.rd (Nat.le_trans hB d1.size) (Nat.le_trans hri.cap hri.cm)
      obtain ⟨x, hxk⟩ : ∃ x, t.rows[k] = x := ⟨_, rfl⟩
      obtain ⟨R, hR⟩ : ∃ R, greatR x = R := ⟨_, rfl⟩
      rw [hxk] at cr' g0 g1
      rw [hR] at cr'
      have HX := Lib.hid (And.intro hxk hR)
      obtain ⟨f0, f1, f2, f3, ff⟩ := F
      clear hn hm hu hr hB hri hxk hR ff
      go_wp2_with fail
      refine cr'.mono ?_
      rintro e w1 ⟨rfl, hb1⟩
      have d2 := hbr.trans (hb1.mono hbr.size)
      cases R with
      | true =>
        obtain ⟨hxk, hR⟩ := HX.out
        have hv := HG1.out k hk1 hlm (by rw [hxk]; exact hR)
        subst hv
        clear hxk hR f0 f1 f2 f3 g0 g1
        go_wp2
        go_ret
        exact ⟨rfl, HB.out.trans (d2.mono HB.out.size)⟩
      | false =>
        clear f0 f1 f2 f3 g0 g1
        go_wp2
        go_roundw
        case rel =>
          obtain ⟨hxk, hR⟩ := HX.out
          exact ⟨k + 1, hlt, hlm, by go_num, fun j hj h => by
            by_cases e : j = k
            · subst e; rw [hxk]; exact hR
            · exact HJ.out j (by omega) h, d2⟩
        case measure => simp [intOf]; omega
    · have hv := HG2.out (fun j h1 g => HJ.out j (by omega) g)
      subst hv
      have hstop : (¬ k < n ∧ decide ((k : Int) < n) = false) ∨ (k < n ∧ decide ((k : Int) < n) = true ∧ ¬ k < 20 ∧ (20 : Int) ≤ k ∧ decide ((k : Int) < 20) = false) := by
        by_cases h1 : k < n
        · right
          exact ⟨h1, by simp; omega, by omega, by omega, by simp; omega⟩
        · left
          exact ⟨h1, by simp; omega⟩
      obtain ⟨wo, rfl⟩ : ∃ wo, wo = wr := ⟨_, rfl⟩
      obtain ⟨f0, f1, f2, f3, ff⟩ := F
      have d1 := HB.out.trans (hbr.mono HB.out.size)
      have hul : ∀ j (h : j < t.us.length), ∃ b off, Au = some ⟨b, off, none⟩ ∧ wo.cell? ⟨b, off + j, none⟩ = some (.string t.us[j]) := fun j h => by
        obtain ⟨b, off, e, _, hc⟩ := (hu.thru d1 hB).at' (k := j) (by rw [sv_len]; exact h)
        have := hc j (by rw [sv_len]; exact h)
        simp only [sv, List.getElem_map] at this
        exact ⟨b, off, e, this⟩
      have HU := Lib.hid hul
      have HM := Lib.hid hm
      clear hn hm hu hr hB ff hul
      rcases hstop with ⟨hl1, hd1⟩ | ⟨hl1, hd1, hl2, hl3, hd2⟩ <;>
      · go_wp2
        go_loopw [4] (fun i wr => ∃ k : Nat, k ≤ m ∧ k ≤ 20 ∧ i = .int .i64 k ∧ (∀ j, j < k → ∀ h : j < t.us.length, longB t.us[j] = false) ∧ wr = wo) (fun i _ => m - (intOf i).toNat)
        case atStart => exact ⟨0, Nat.zero_le _, Nat.zero_le _, rfl, fun j hj => by omega, rfl⟩
        case round =>
          obtain ⟨k2, hk2, hkm2, rfl, hj2, rfl⟩ := hrel
          have HJ2 := Lib.hid hj2
          clear hj2
          by_cases hlt2 : k2 < m ∧ k2 < 20
          · obtain ⟨hlt2, hlm2⟩ := hlt2
            have hk3 : k2 < t.us.length := by rw [HM.out]; exact hlt2
            obtain ⟨b, off, e, g0⟩ := HU.out k2 hk3
            subst e
            have hlI : (k2 : Int) < m := by omega
            have hd3 : decide ((k2 : Int) < m) = true := by simp; omega
            have hd4 : decide ((k2 : Int) < 20) = true := by simp; omega
            obtain ⟨x, hxk⟩ : ∃ x, t.us[k2] = x := ⟨_, rfl⟩
            rw [hxk] at g0
            have HX := Lib.hid hxk
            clear hxk
            by_cases h3 : 300 < x.size
            · have hv := HG3.out k2 hk3 hlm2 (by rw [HX.out]; simp [longB, h3])
              subst hv
              have h3I : decide ((300 : Int) < x.size) = true := by simp; omega
              go_wp2
              go_ret
              exact ⟨rfl, d1⟩
            · have h3I : decide ((300 : Int) < x.size) = false := by simp; omega
              go_wp2
              go_roundw
              case rel =>
                exact ⟨k2 + 1, hlt2, hlm2, by go_num, fun j hj h => by
                  by_cases e : j = k2
                  · subst e; rw [HX.out]; simp only [longB]; simp; omega
                  · exact HJ2.out j (by omega) h, trivial⟩
              case measure => simp [intOf]; omega
          · have hv := HG4.out (fun j h1 g => HJ2.out j (by have := HM.out; omega) g)
            have hstop2 : (¬ k2 < m ∧ decide ((k2 : Int) < m) = false) ∨ (k2 < m ∧ decide ((k2 : Int) < m) = true ∧ ¬ k2 < 20 ∧ (20 : Int) ≤ k2 ∧ decide ((k2 : Int) < 20) = false) := by
              by_cases h1 : k2 < m
              · right
                exact ⟨h1, by simp; omega, by omega, by omega, by simp; omega⟩
              · left
                exact ⟨h1, by simp; omega⟩
            by_cases q1 : 12 < n
            · have e1 : decide ((12 : Int) < n) = true := by simp; omega
              rw [decide_eq_true q1, Bool.true_or, Bool.true_or] at hv
              subst hv
              rcases hstop2 with ⟨hm1, hd3⟩ | ⟨hm1, hd3, hm2, hm3, hd4⟩ <;> first
                | (exfalso; omega)
                | (go_wp2
                   go_ret
                   exact ⟨rfl, d1⟩)
            · have e1 : decide ((12 : Int) < n) = false := by simp; omega
              rw [decide_eq_false q1, Bool.false_or] at hv
              by_cases q2 : 10 < m
              · have e2 : decide ((10 : Int) < m) = true := by simp; omega
                rw [decide_eq_true q2, Bool.true_or] at hv
                subst hv
                rcases hstop2 with ⟨hm1, hd3⟩ | ⟨hm1, hd3, hm2, hm3, hd4⟩ <;> first
                  | (exfalso; omega)
                  | (go_wp2
                     go_ret
                     exact ⟨rfl, d1⟩)
              · have e2 : decide ((10 : Int) < m) = false := by simp; omega
                rw [decide_eq_false q2, Bool.false_or] at hv
                subst hv
                rcases hstop2 with ⟨hm1, hd3⟩ | ⟨hm1, hd3, hm2, hm3, hd4⟩ <;> first
                  | (exfalso; omega)
                  | (go_wp2
                     go_ret
                     exact ⟨ret_bool (by simp; omega), d1⟩)
end
section
open Go.RowKit
def sameRs : List RecC → List RecC → Bool
  | [], [] => true
  | c :: r, d :: s => sameR c d && sameRs r s
  | _, _ => false
theorem sameRs_iff : ∀ xs ys, sameRs xs ys = true ↔ xs = ys
  | [], [] => by simp [sameRs]
  | c :: r, d :: s => by
    rw [sameRs, Bool.and_eq_true, sameR_iff, sameRs_iff r s]
    simp
  | [], d :: s => by simp [sameRs]
  | c :: r, [] => by simp [sameRs]
theorem sameRs_ne {xs ys : List RecC} (h : xs.length ≠ ys.length) : sameRs xs ys = false := by
  cases e : sameRs xs ys with
  | false => rfl
  | true => exact absurd (by rw [(sameRs_iff xs ys).1 e]) h
theorem sameRs_drop {xs ys : List RecC} {k : Nat} (h1 : k < xs.length) (h2 : k < ys.length) : sameRs (xs.drop k) (ys.drop k) = (sameR xs[k] ys[k] && sameRs (xs.drop (k + 1)) (ys.drop (k + 1))) := by
  rw [List.drop_eq_getElem_cons h1, List.drop_eq_getElem_cons h2, sameRs]
def sameT (t x : TabC) : Bool := decide (t.name = x.name) && (decide (t.most = x.most) && (decide (t.us = x.us) && sameRs t.rows x.rows))
theorem sameT_iff (t x : TabC) : sameT t x = true ↔ t = x := by
  unfold sameT
  rw [Bool.and_eq_true, Bool.and_eq_true, Bool.and_eq_true, decide_eq_true_iff, decide_eq_true_iff, decide_eq_true_iff, sameRs_iff]
  constructor
  · rintro ⟨h1, h2, h3, h4⟩
    cases t; cases x
    simp only at h1 h2 h3 h4
    rw [h1, h2, h3, h4]
  · rintro rfl
    exact ⟨rfl, rfl, rfl, rfl⟩
/-- two tables in boxes -/
def Box2 (w : World) (t x : TabC) (Au : Option Addr) (cu : Nat) (Ar : Option Addr) (cr : Nat) (Bu : Option Addr) (du : Nat) (Br : Option Addr) (dr : Nat) : World :=
  (w.alloc (.cells #[.string t.name, .int .i64 t.most, .slice Au t.us.length cu, .slice Ar t.rows.length cr] 25)).alloc (.cells #[.string x.name, .int .i64 x.most, .slice Bu x.us.length du, .slice Br x.rows.length dr] 25)
set_option maxRecDepth 100000 in
set_option maxHeartbeats 8000000 in
theorem same_t (t x : TabC) (Au : Option Addr) (cu : Nat) (Ar : Option Addr) (cr : Nat) (Bu : Option Addr) (du : Nat) (Br : Option Addr) (dr : Nat) (w : World) {B B' : Nat} (h : TabIn w B t Au Ar) (h' : TabIn w B' x Bu Br) :
    Calls Tryz.prog 16 #[.agg #[.string t.name, .int .i64 t.most, .slice Au t.us.length cu, .slice Ar t.rows.length cr], .agg #[.string x.name, .int .i64 x.most, .slice Bu x.us.length du, .slice Br x.rows.length dr]] w fun e w' => e = .returned (.bool (sameT t x)) ∧ Below w.heap.size w w' := by
  obtain ⟨W1, hW1⟩ : ∃ W1, W1 = Box2 w t x Au cu Ar cr Bu du Br dr := ⟨_, rfl⟩
  have hw1 : Below w.heap.size w W1 := by rw [hW1]; exact ((Below.refl _ _).alloc (Nat.le_refl _) _).alloc (by simp) _
  have hz1 : W1.heap.size = w.heap.size + 1 + 1 := by rw [hW1]; simp [Box2]
  have k0 : ∀ W, Below W1.heap.size W1 W → Four W w.heap.size (.string t.name) (.int .i64 t.most) (.slice Au t.us.length cu) (.slice Ar t.rows.length cr) := fun W q => by
    refine Four.below (W := W1) ?_ q (by omega)
    rw [hW1]
    exact (Four.new w _ _ _ _ _).grown (World.grownBy_alloc _ _ none) (by simp)
  have k1 : ∀ W, Below W1.heap.size W1 W → Four W (w.heap.size + 1) (.string x.name) (.int .i64 x.most) (.slice Bu x.us.length du) (.slice Br x.rows.length dr) := fun W q => by
    refine Four.below (W := W1) ?_ q (by omega)
    have g := Four.new (w.alloc (.cells #[.string t.name, .int .i64 t.most, .slice Au t.us.length cu, .slice Ar t.rows.length cr] 25)) (.string x.name) (.int .i64 x.most) (.slice Bu x.us.length du) (.slice Br x.rows.length dr) 25
    rw [hW1]
    simpa [Box2] using g
  have cu' := (osame_any Au Bu cu du t.us x.us W1 (h.us.thru hw1 h.le) (h'.us.thru hw1 h'.le) (by have := h.ul; unfold maxLen; omega)).mono (R' := fun e w' => e = .returned (.bool (decide (t.us = x.us))) ∧ Below W1.heap.size W1 w') fun e w' hh => by
    obtain ⟨e1, n, rfl⟩ := hh
    exact ⟨e1, (Below.refl _ _).drewN' _⟩
  have hrl := h.rl
  have hrl' := h'.rl
  have HB := Lib.hid hw1
  have HK0 := Lib.hid k0
  have HK1 := Lib.hid k1
  have HH := Lib.hid (And.intro h h')
  have FA := k0 W1 (Below.refl _ _)
  have FB := k1 W1 (Below.refl _ _)
  obtain ⟨f0, f1, f2, f3, _⟩ := FA
  obtain ⟨g0, g1, g2, g3, _⟩ := FB
  have HZ := Lib.hid hz1
  unfold sameT
  unfold Box2 at hW1
  clear h h' hw1 k0 k1 hz1
  by_cases e1 : t.name = x.name
  · by_cases e2 : t.most = x.most
    · rw [decide_eq_true e1, decide_eq_true e2]
      simp only [Bool.true_and]
      rw [← e1] at hW1 g0 ⊢
      rw [← e2] at hW1 g1 ⊢
      obtain ⟨U, hU⟩ : ∃ U, decide (t.us = x.us) = U := ⟨_, rfl⟩
      rw [hU] at cu' ⊢
      clear hU e1 e2
      cases U with
      | false =>
        simp only [Bool.false_and]
        subst hW1
        go_enter Tryz.func16, Tryz.ntmps16
        go_wp2_with fail
        refine cu'.mono ?_
        rintro e w1 ⟨rfl, hb1⟩
        go_wp2
        go_ret
        exact ⟨rfl, HB.out.trans (hb1.mono HB.out.size)⟩
      | true =>
        simp only [Bool.true_and]
        by_cases hl : t.rows.length = x.rows.length
        · obtain ⟨V, hV⟩ : ∃ V, sameRs t.rows x.rows = V := ⟨_, rfl⟩
          rw [hV]
          have HV := Lib.hid hV
          have hlI : ((t.rows.length : Int) != x.rows.length) = false := by simp [hl]
          have HL := Lib.hid hl
          have HW := Lib.hid hW1
          clear hV hl HW
          subst hW1
          go_enter Tryz.func16, Tryz.ntmps16
          go_wp2_with fail
          refine cu'.mono ?_
          rintro e w1 ⟨rfl, hb1⟩
          clear f0 f1 f2 f3 g0 g1 g2 g3
          have A1 := HK0.out w1 hb1
          have A2 := HK1.out w1 hb1
          obtain ⟨f0, f1, f2, f3, _⟩ := A1
          obtain ⟨g0, g1, g2, g3, _⟩ := A2
          go_wp2
          go_loopw [5] (fun i wr => ∃ k : Nat, k ≤ t.rows.length ∧ i = .int .i64 k ∧ sameRs (t.rows.drop k) (x.rows.drop k) = V ∧ Below w1.heap.size w1 wr) (fun i _ => t.rows.length - (intOf i).toNat)
          case atStart => exact ⟨0, Nat.zero_le _, rfl, by rw [List.drop_zero, List.drop_zero, HV.out], Below.refl _ _⟩
          case round =>
            obtain ⟨k, hk, rfl, hd, hbr⟩ := hrel
            have d1 := HB.out.trans ((hb1.trans (hbr.mono hb1.size)).mono HB.out.size)
            have kF : ∀ W, Below wr.heap.size wr W → W.cell? ⟨w.heap.size, 3, none⟩ = some (.slice Ar t.rows.length cr) ∧ W.cell? ⟨w.heap.size + 1, 3, none⟩ = some (.slice Br x.rows.length dr) := fun W q =>
              ⟨(HK0.out W ((hb1.trans (hbr.mono hb1.size)).trans (q.mono (Nat.le_trans hb1.size hbr.size)))).c3, (HK1.out W ((hb1.trans (hbr.mono hb1.size)).trans (q.mono (Nat.le_trans hb1.size hbr.size)))).c3⟩
            clear f0 f1 f2 f3 g0 g1 g2 g3
            by_cases hlt : k < t.rows.length
            · obtain ⟨h, h'⟩ := HH.out
              have hk2 : k < x.rows.length := by have := HL.out; omega
              rw [sameRs_drop hlt hk2] at hd
              have hlI : (k : Int) < t.rows.length := by omega
              have hlI2 : (k : Int) < x.rows.length := by omega
              have hx := fun W (q : Below wr.heap.size wr W) => (h.rows.thru (d1.trans (q.mono d1.size)) h.le)
              have hy := fun W (q : Below wr.heap.size wr W) => (h'.rows.thru (d1.trans (q.mono d1.size)) h'.le)
              obtain ⟨b, off, A', c', eA, hbl, c0, c1, hri⟩ := (hx wr (Below.refl _ _)).at' hlt
              obtain ⟨b2, off2, A2, c2, eB, hbl2, m0, m1, hri2⟩ := (hy wr (Below.refl _ _)).at' hk2
              have hbw : b < wr.heap.size := Nat.lt_of_lt_of_le hbl (Nat.le_trans h.le d1.size)
              have hbw2 : b2 < wr.heap.size := Nat.lt_of_lt_of_le hbl2 (Nat.le_trans h'.le d1.size)
              have kC := fun W (q : Below wr.heap.size wr W) => (same_rec t.rows[k] x.rows[k] A' A2 c' c2 W (hri.rd.thru q (Nat.le_trans h.le d1.size)) (hri2.rd.thru q (Nat.le_trans h'.le d1.size)) (Nat.le_trans (Nat.le_trans h.le d1.size) q.size) (Nat.le_trans (Nat.le_trans h'.le d1.size) q.size) (by have := (h.wf _ (List.getElem_mem hlt)).len; omega)).mono
                (R' := fun e w' => e = .returned (.bool (sameR t.rows[k] x.rows[k])) ∧ Below wr.heap.size wr w') fun e w' hh => ⟨hh.1, q.trans (hh.2.mono q.size)⟩
              obtain ⟨y, hyk⟩ : ∃ y, t.rows[k] = y := ⟨_, rfl⟩
              obtain ⟨z, hzk⟩ : ∃ z, x.rows[k] = z := ⟨_, rfl⟩
              rw [hyk] at kC c0 c1 hd
              rw [hzk] at kC m0 m1 hd
              obtain ⟨R, hR⟩ : ∃ R, sameR y z = R := ⟨_, rfl⟩
              rw [hR] at kC hd
              have kG : ∀ W, Below wr.heap.size wr W → W.cell? ⟨b, off + k * 2, none⟩ = some (.string y.id) ∧ W.cell? ⟨b, off + k * 2 + 1, none⟩ = some (.slice A' y.data.length c') ∧ W.cell? ⟨b2, off2 + k * 2, none⟩ = some (.string z.id) ∧ W.cell? ⟨b2, off2 + k * 2 + 1, none⟩ = some (.slice A2 z.data.length c2) ∧ W.cell? ⟨w.heap.size, 3, none⟩ = some (.slice (some ⟨b, off, none⟩) t.rows.length cr) ∧ W.cell? ⟨w.heap.size + 1, 3, none⟩ = some (.slice (some ⟨b2, off2, none⟩) x.rows.length dr) := fun W q => by
                have := kF W q
                rw [eA, eB] at this
                exact ⟨(q.cell (p := ⟨b, off + k * 2, none⟩) hbw).trans c0, (q.cell (p := ⟨b, off + k * 2 + 1, none⟩) hbw).trans c1, (q.cell (p := ⟨b2, off2 + k * 2, none⟩) hbw2).trans m0, (q.cell (p := ⟨b2, off2 + k * 2 + 1, none⟩) hbw2).trans m1, this.1, this.2⟩
              have KC := Lib.hid kC
              have KG := Lib.hid kG
              obtain ⟨_, _, _, _, s0, s1⟩ := kG wr (Below.refl _ _)
              have HD := Lib.hid hd
              clear h h' hx hy hri hri2 kC hyk hzk hR kG kF hd c0 c1 m0 m1 eA eB
              go_wp2
              go_region_held3 (fun W => W.cell? ⟨b, off + k * 2, none⟩ = some (.string y.id) ∧ W.cell? ⟨b, off + k * 2 + 1, none⟩ = some (.slice A' y.data.length c') ∧ W.cell? ⟨b2, off2 + k * 2, none⟩ = some (.string z.id) ∧ W.cell? ⟨b2, off2 + k * 2 + 1, none⟩ = some (.slice A2 z.data.length c2) ∧ W.cell? ⟨w.heap.size, 3, none⟩ = some (.slice (some ⟨b, off, none⟩) t.rows.length cr) ∧ W.cell? ⟨w.heap.size + 1, 3, none⟩ = some (.slice (some ⟨b2, off2, none⟩) x.rows.length dr))
                (exact KG.out _ (by repeat (first | assumption | exact Below.refl _ _ | refine Below.drew ?_)))
                ((go_at_call 15; (with_reducible refine (KC.out _ ?_).mono ?_); (repeat (first | assumption | exact Below.refl _ _ | refine Below.drew ?_)); rintro e w5 ⟨rfl, hb5⟩))
              cases R with
              | true =>
                go_wp2
                go_roundw
                case rel => exact ⟨k + 1, hlt, by go_num, by have := HD.out; rwa [Bool.true_and] at this, hbr.trans (hb5.mono hbr.size)⟩
                case measure => simp [intOf]; omega
              | false =>
                obtain rfl : V = false := by have := HD.out; rw [Bool.false_and] at this; exact this.symm
                go_wp2
                go_ret
                exact ⟨rfl, d1.trans (hb5.mono d1.size)⟩
            · obtain rfl : k = t.rows.length := by omega
              rw [List.drop_of_length_le (Nat.le_refl _), List.drop_of_length_le (by rw [HL.out]; exact Nat.le_refl _)] at hd
              have hv : V = true := by rw [← hd]; rfl
              subst hv
              obtain ⟨s0, s1⟩ := kF wr (Below.refl _ _)
              have hdd : decide ((t.rows.length : Int) < t.rows.length) = false := by simp
              clear hd kF
              go_wp2
              go_ret
              exact ⟨rfl, d1⟩
        · have hv := sameRs_ne hl
          rw [hv]
          have hlI : ((t.rows.length : Int) != x.rows.length) = true := bne_iff_ne.2 (by omega)
          subst hW1
          clear hv hl
          go_enter Tryz.func16, Tryz.ntmps16
          go_wp2_with fail
          refine cu'.mono ?_
          rintro e w1 ⟨rfl, hb1⟩
          clear f0 f1 f2 f3 g0 g1 g2 g3
          have A1 := HK0.out w1 hb1
          have A2 := HK1.out w1 hb1
          obtain ⟨f0, f1, f2, f3, _⟩ := A1
          obtain ⟨g0, g1, g2, g3, _⟩ := A2
          go_wp2
          go_ret
          exact ⟨rfl, HB.out.trans (hb1.mono HB.out.size)⟩
    · rw [decide_eq_true e1, decide_eq_false e2]
      simp only [Bool.true_and, Bool.false_and]
      rw [← e1] at hW1 g0 ⊢
      have hmo : (t.most == x.most) = false := by simp [e2]
      subst hW1
      clear e1 cu'
      go_enter Tryz.func16, Tryz.ntmps16
      go_wp2
      go_ret
      exact ⟨rfl, HB.out⟩
  · rw [decide_eq_false e1]
    simp only [Bool.false_and]
    have hp : ¬ t.name.toList = x.name.toList := fun e => e1 (ba_ext e)
    have hq : (t.name.toList == x.name.toList) = false := beq_eq_false_iff_ne.2 hp
    subst hW1
    clear e1 cu'
    go_enter Tryz.func16, Tryz.ntmps16
    go_wp2
    go_ret
    exact ⟨rfl, HB.out⟩
end
section
open Go.RowKit
theorem mayT_S {t : TabC} : rises (idsL t.rows) = true ↔ Tb.S ordC t.rows := by
  rw [rises_pw]
  unfold Pw idsL Tb.S
  rw [List.pairwise_map]
  exact Iff.rfl
theorem mayT_iff (t : TabC) : mayT t = true ↔ Tb.May ordC t := by
  unfold mayT
  simp only [Bool.and_eq_true, decide_eq_true_eq, Bool.not_eq_true', List.any_eq_false, mayT_S]
  constructor
  · rintro ⟨⟨⟨⟨⟨h1, h2⟩, h3⟩, h4⟩, h5⟩, h6⟩
    have g : ∀ r ∈ t.rows, oneR r = true ∧ Tb.clashes ordC t r = false := fun r hr => by
      have := h6 r hr
      unfold badR at this
      cases a : oneR r <;> cases b : Tb.clashes ordC t r <;> simp_all
    exact ⟨h1, h2, h3, h4, h5, fun r hr => (g r hr).1, fun r hr => (g r hr).2⟩
  · rintro ⟨h1, h2, h3, h4, h5, h6, h7⟩
    refine ⟨⟨⟨⟨⟨h1, h2⟩, h3⟩, h4⟩, h5⟩, fun r hr => ?_⟩
    have a : oneR r = true := h6 r hr
    have b := h7 r hr
    simp [badR, a, b]
theorem before_tw (rs : List RecC) (s : ByteArray) : before (idsL rs) s = (rs.takeWhile (fun x => slt x.id s)).length := by
  unfold before idsL
  rw [List.takeWhile_map, List.length_map]
  rfl
theorem take_before (rs : List RecC) (s : ByteArray) : rs.take (before (idsL rs) s) = rs.takeWhile (fun x => slt x.id s) := by
  rw [before_tw]
  exact (List.prefix_iff_eq_take.1 (List.takeWhile_prefix _)).symm
theorem drop_before (rs : List RecC) (s : ByteArray) : rs.drop (before (idsL rs) s) = rs.dropWhile (fun x => slt x.id s) := by
  have e := List.takeWhile_append_dropWhile (p := fun x : RecC => slt x.id s) (l := rs)
  rw [before_tw]
  conv => lhs; rw [← e]
  rw [List.drop_left' (by rw [e])]
theorem split_at {rs : List RecC} {s : ByteArray} (hb : hasB (idsL rs) s = true) : ∃ x, rs = rs.take (before (idsL rs) s) ++ x :: rs.drop (before (idsL rs) s + 1) ∧ x.id = s ∧ rs[before (idsL rs) s]? = some x ∧ before (idsL rs) s < rs.length := by
  obtain ⟨hl, he⟩ := hasB_get hb
  have hl' : before (idsL rs) s < rs.length := by rw [idsL_len] at hl; exact hl
  refine ⟨rs[before (idsL rs) s], ?_, ?_, List.getElem?_eq_getElem hl', hl'⟩
  · rw [← List.drop_eq_getElem_cons hl', List.take_append_drop]
  · rw [← idsL_get hl hl']
    exact he
theorem hasB_hasId {rs : List RecC} (hr : rises (idsL rs) = true) (s : ByteArray) : hasB (idsL rs) s = Tb.hasId rs s := by
  rw [Bool.eq_iff_iff, Tb.hasId_iff]
  constructor
  · intro h
    obtain ⟨x, _, e, hx, _⟩ := split_at h
    exact ⟨x, List.mem_of_getElem? hx, e⟩
  · rintro ⟨x, hx, rfl⟩
    obtain ⟨j, hj, rfl⟩ := List.getElem_of_mem hx
    have hj' : j < (idsL rs).length := by rw [idsL_len]; exact hj
    have e := idsL_get hj' hj
    have hb : before (idsL rs) rs[j].id = j := before_eq (by omega) (fun i hi => by rw [← e]; exact rises_lt hr j i hj' hi) (fun _ => by rw [e]; exact less_irrefl _)
    have hlt : before (idsL rs) rs[j].id < (idsL rs).length := by rw [hb]; exact hj'
    rw [hasB_at hlt, decide_eq_true_iff]
    have : (idsL rs)[before (idsL rs) rs[j].id] = (idsL rs)[j] := by congr 1
    rw [this, e]
section
variable {l1 l2 : List RecC} {x : RecC}
theorem S_mid (h : Tb.S ordC (l1 ++ x :: l2)) : (∀ y ∈ l1, y.id ≠ x.id) ∧ ∀ y ∈ l2, y.id ≠ x.id := by
  obtain ⟨_, h2, h3⟩ := List.pairwise_append.1 h
  rw [List.pairwise_cons] at h2
  exact ⟨fun y hy => Tb.lt_ne (O := ordC) (h3 y hy x (by simp)), fun y hy => (Tb.lt_ne (O := ordC) (h2.1 y hy)).symm⟩
theorem del_mid (h : Tb.S ordC (l1 ++ x :: l2)) : Tb.delR (l1 ++ x :: l2) x.id = l1 ++ l2 := by
  obtain ⟨h1, h2⟩ := S_mid h
  unfold Tb.delR
  rw [List.filter_append, List.filter_cons_of_neg (by simp), List.filter_eq_self.2 (fun y hy => by simp [h1 y hy]), List.filter_eq_self.2 (fun y hy => by simp [h2 y hy])]
theorem set_mid (h : Tb.S ordC (l1 ++ x :: l2)) (r : RecC) (hr : x.id = r.id) : Tb.setR (l1 ++ x :: l2) r = l1 ++ r :: l2 := by
  obtain ⟨h1, h2⟩ := S_mid h
  rw [hr] at h1 h2
  have e : ∀ l : List RecC, (∀ y ∈ l, y.id ≠ r.id) → l.map (fun y => if y.id = r.id then r else y) = l := fun l hl => by
    conv => rhs; rw [← List.map_id l]
    exact List.map_congr_left fun y hy => by rw [if_neg (hl y hy)]; rfl
  unfold Tb.setR
  rw [List.map_append, List.map_cons, if_pos hr, e l1 h1, e l2 h2]
end
theorem getT_eq (t : TabC) (id : ByteArray) : getT t id = Tb.get ordC t id := by
  unfold getT Tb.get
  by_cases hm : mayT t = true
  · have hM := (mayT_iff t).1 hm
    rw [if_pos hm, if_pos hM]
    by_cases hb : hasB (idsL t.rows) id = true
    · rw [if_pos hb]
      obtain ⟨x, _, e, hx, _⟩ := split_at hb
      rw [hx, ← e, Tb.getI_of hM.s (List.mem_of_getElem? hx)]
    · rw [if_neg hb]
      refine (Tb.getI_none.2 ?_).symm
      rw [← hasB_hasId (mayT_rises hm)]
      simpa using hb
  · rw [if_neg hm, if_neg (fun h => hm ((mayT_iff t).2 h))]
theorem zeroT_eq : (Tb.zero : TabC) = zeroT := rfl
theorem putT_eq (t : TabC) (r : RecC) : putT t r = Tb.put ordC t r := by
  unfold putT Tb.put
  by_cases hm : mayT t = true
  · have hM := (mayT_iff t).1 hm
    rw [if_pos hm, if_pos hM]
    by_cases h1 : oneR r = true
    · rw [if_pos h1, if_pos (show ordC.one r = true from h1), hasB_hasId (mayT_rises hm)]
      by_cases h2 : Tb.hasId t.rows r.id = true
      · rw [if_pos h2, if_pos (show Tb.hasId t.rows r.id = true ∨ Tb.clashes ordC t r = true from .inl h2)]; rfl
      · rw [if_neg h2]
        by_cases h3 : Tb.clashes ordC t r = true
        · rw [if_pos h3, if_pos (show Tb.hasId t.rows r.id = true ∨ Tb.clashes ordC t r = true from .inr h3)]; rfl
        · rw [if_neg h3, if_neg (show ¬ (Tb.hasId t.rows r.id = true ∨ Tb.clashes ordC t r = true) from by rintro (h | h); exact h2 h; exact h3 h)]
          by_cases h4 : (t.rows.length : Int) = t.most
          · rw [if_pos (show ((t.rows.length : Int) == t.most) = true from by rw [h4]; simp), if_pos h4]; rfl
          · rw [if_neg (show ¬ ((t.rows.length : Int) == t.most) = true from by simpa using h4), if_neg h4, take_before, drop_before]; rfl
    · rw [if_neg h1, if_neg (show ¬ ordC.one r = true from h1)]; rfl
  · rw [if_neg hm, if_neg (fun h => hm ((mayT_iff t).2 h))]; rfl
theorem setT_eq (t : TabC) (r : RecC) : setT t r = Tb.set ordC t r := by
  unfold setT Tb.set
  by_cases hm : mayT t = true
  · have hM := (mayT_iff t).1 hm
    rw [if_pos hm, if_pos hM]
    by_cases h1 : oneR r = true
    · rw [if_pos h1, if_pos (show ordC.one r = true from h1)]
      by_cases h2 : hasB (idsL t.rows) r.id = true
      · rw [if_pos h2, if_neg (show ¬ Tb.hasId t.rows r.id = false from by rw [← hasB_hasId (mayT_rises hm), h2]; simp)]
        by_cases h3 : Tb.clashes ordC t r = true
        · rw [if_pos h3, if_pos h3]; rfl
        · rw [if_neg h3, if_neg h3]
          obtain ⟨x, e, hx, _, hl⟩ := split_at h2
          have hs := hM.s
          obtain ⟨P, hP⟩ : ∃ P, before (idsL t.rows) r.id = P := ⟨_, rfl⟩
          rw [hP] at e hl ⊢
          have e2 : Tb.setR t.rows r = t.rows.take P ++ r :: t.rows.drop (P + 1) := by
            rw [e] at hs
            conv => lhs; rw [e]
            exact set_mid hs r hx
          rw [e2, List.set_eq_take_append_cons_drop, if_pos hl]
      · rw [if_neg h2, if_pos (show Tb.hasId t.rows r.id = false from by rw [← hasB_hasId (mayT_rises hm)]; simpa using h2)]; rfl
    · rw [if_neg h1, if_neg (show ¬ ordC.one r = true from h1)]; rfl
  · rw [if_neg hm, if_neg (fun h => hm ((mayT_iff t).2 h))]; rfl
theorem dropT_eq (t : TabC) (id : ByteArray) : dropT t id = Tb.drop ordC t id := by
  unfold dropT Tb.drop
  by_cases hm : mayT t = true
  · have hM := (mayT_iff t).1 hm
    rw [if_pos hm, if_pos hM]
    by_cases h2 : hasB (idsL t.rows) id = true
    · rw [if_pos h2, if_neg (show ¬ Tb.hasId t.rows id = false from by rw [← hasB_hasId (mayT_rises hm), h2]; simp)]
      obtain ⟨x, e, rfl, _, hl⟩ := split_at h2
      have hs := hM.s
      obtain ⟨P, hP⟩ : ∃ P, before (idsL t.rows) x.id = P := ⟨_, rfl⟩
      rw [hP] at e ⊢
      have e2 : Tb.delR t.rows x.id = t.rows.take P ++ t.rows.drop (P + 1) := by
        rw [e] at hs
        conv => lhs; rw [e]
        exact del_mid hs
      rw [e2]
    · rw [if_neg h2, if_pos (show Tb.hasId t.rows id = false from by rw [← hasB_hasId (mayT_rises hm)]; simpa using h2)]; rfl
  · rw [if_neg hm, if_neg (fun h => hm ((mayT_iff t).2 h))]; rfl
theorem checkT_of {t : TabC} (h : Tb.May ordC t) : checkT t = 0 := by
  unfold checkT
  rw [if_pos ((mayT_iff t).2 h)]
end
end Go.Proofs.YtcgioepbooafcaaGreatDoor
