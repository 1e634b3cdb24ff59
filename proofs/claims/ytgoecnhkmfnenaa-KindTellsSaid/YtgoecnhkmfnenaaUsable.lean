/- Contract of kind.Usable: where a variable may stand. Conditions: lengths within the model's. -/
import Derived.Test.YtgoecnhkmfnenaaKAlive
import Derived.Deep.DeepCutAuto
namespace Go.Proofs.Ytgoecnhkmfnenaa
open Go.RowKit

/-- what 'kindOf' answers, asked whether it is 'not null' -/
theorem assert_non {w' : World} {B : Nat} {nm : ByteArray} {v : Value} {ws : List UInt8} (h : KV w' B nm v ws) :
    ∃ T x, v = .iface T x ∧ ((ws.head? = some 1 ∧ T = 58 ∧ ∃ A' n' c', x = .agg #[.string nm, .slice A' n' c']) ∨
      (ws.head? ≠ some 1 ∧ ∀ w : World, (Instr.typeAssert (.iface T x) 55 58 true).run Try.prog w = .ok (.tuple #[.agg #[.string ⟨#[]⟩, .slice none 0 0], .bool false]) w)) := by
  rcases ws with _ | ⟨a, r⟩
  · exact ⟨_, _, h, .inr ⟨by simp, as_non_named _⟩⟩
  · rcases h with ⟨rfl, A', c', rfl, _⟩ | ⟨rfl, A', c', rfl, _⟩ | ⟨h1, _, rfl⟩
    · exact ⟨_, _, rfl, .inl ⟨rfl, rfl, A', r.length, c', rfl⟩⟩
    · exact ⟨_, _, rfl, .inr ⟨by simp, as_non_list _⟩⟩
    · exact ⟨_, _, rfl, .inr ⟨by simp [h1], as_non_other _⟩⟩

/-- a slot that nothing was put in yields no Bool -/
@[go_sem] theorem match_undef (f : Bool → Option Bool) (g : Option Value → Option Bool) : yielded.match_1 (fun _ => Option Bool) (some undef) f g = g (some undef) := rfl
/-- a variable's value -/
def inp (vn tn : ByteArray) (A : Option Addr) (n c : Nat) (vh : Bool) (D : Option Addr) (dl dc : Nat) (G : Value) : Value :=
  .agg #[.string vn, .string tn, .slice A n c, .bool vh, .slice D dl dc, G]
def Dflt (w : World) (B : Nat) (D : Option Addr) (dl : Nat) (nul : Bool) : Prop :=
  (dl = 0 ∧ nul = false) ∨ (0 < dl ∧ ∃ b off kd, D = some ⟨b, off, none⟩ ∧ b < B ∧ w.cell? ⟨b, off, none⟩ = some (.int .u8 kd) ∧ nul = (kd == 0))
theorem Dflt.keep {w w' : World} {B B' dl : Nat} {D : Option Addr} {nul : Bool} (h : Dflt w B D dl nul) (hb : Below B' w w') (hB : B ≤ B') : Dflt w' B D dl nul := by
  rcases h with h | ⟨h0, b, off, kd, e, h1, h2, h3⟩
  · exact .inl h
  · exact .inr ⟨h0, b, off, kd, e, h1, (hb.cell (p := ⟨b, off, none⟩) (Nat.lt_of_lt_of_le h1 hB)).trans h2, h3⟩
def usable (tn nb : ByteArray) (fa tb : List UInt8) (vh nul has : Bool) : Bool :=
  if tb.head? = some 1 ∧ fa.head? ≠ some 1 then (has || (vh && !nul)) && fits tn nb fa (bare tb) else fits tn nb fa tb

def TwinX (nm : ByteArray) (ws : List UInt8) (w : World) (e : Ending) (w' : World) : Prop :=
  ∃ A' c', e = .returned (.agg #[.string nm, .slice A' ws.length c']) ∧ OwnB w' w.heap.size (.slice A' ws.length c') ws ∧ Below w.heap.size w w'
theorem bareX (nm : ByteArray) (A : Option Addr) (c : Nat) (ws : List UInt8) (w : World) {B : Nat} (hx : Rd w B A (bv ws)) (hB : B ≤ w.heap.size) (hc : ws.length ≤ c) (hm : c ≤ maxLen) (hn : ws.length ≤ 140737488351232) :
    Calls Try.prog 12 #[.agg #[.string nm, .slice A ws.length c]] w (TwinX nm (bare ws) w) := bare_any nm A c ws w hx hB hc hm hn
theorem fitsX (na nb : ByteArray) (A A2 : Option Addr) (c c2 : Nat) (fa tb : List UInt8) (w : World) (B : Nat) (hx : Rd w B A (bv fa)) (hy : Rd w B A2 (bv tb)) (hB : B ≤ w.heap.size) (hc : fa.length ≤ c) (hm : c ≤ maxLen) (hc2 : tb.length ≤ c2) (hm2 : c2 ≤ maxLen) :
    Calls Try.prog 9 #[.agg #[.string na, .slice A fa.length c], .agg #[.string nb, .slice A2 tb.length c2]] w fun e w' => e = .returned (.bool (fits na nb fa tb)) ∧ Below w.heap.size w w' :=
  fits_any na nb fa tb A A2 c c2 w B hx hy hB hc hm hc2 hm2
/-- the two boxes, seen from a later world -/
structure Two (w w1 : World) (a0 a1 a2 a3 a4 a5 b0 b1 : Value) : Prop where
  c0 : w1.cell? ⟨w.heap.size, 0, none⟩ = some a0
  c1 : w1.cell? ⟨w.heap.size, 1, none⟩ = some a1
  c2 : w1.cell? ⟨w.heap.size, 2, none⟩ = some a2
  c3 : w1.cell? ⟨w.heap.size, 3, none⟩ = some a3
  c4 : w1.cell? ⟨w.heap.size, 4, none⟩ = some a4
  c5 : w1.cell? ⟨w.heap.size, 5, none⟩ = some a5
  d0 : w1.cell? ⟨w.heap.size + 1, 0, none⟩ = some b0
  d1 : w1.cell? ⟨w.heap.size + 1, 1, none⟩ = some b1
theorem Two.new (w : World) (a0 a1 a2 a3 a4 a5 b0 b1 : Value) (t u : TypeId) : Two w ((w.alloc (.cells #[a0, a1, a2, a3, a4, a5] t)).alloc (.cells #[b0, b1] u)) a0 a1 a2 a3 a4 a5 b0 b1 := by
  constructor
  iterate 6 (rw [World.cell?_alloc_past _ _ _ (by simp), World.cell?_alloc_at _ _ _ _ rfl]; rfl)
  iterate 2 (rw [World.cell?_alloc_at _ _ _ _ (by simp)]; rfl)
theorem Two.keep {w w1 w2 : World} {a0 a1 a2 a3 a4 a5 b0 b1 : Value} {B : Nat} (hb : Below B w1 w2) (h : Two w w1 a0 a1 a2 a3 a4 a5 b0 b1) (hg : w.heap.size + 1 < B) : Two w w2 a0 a1 a2 a3 a4 a5 b0 b1 :=
  have hg0 : w.heap.size < B := Nat.lt_of_succ_lt hg
  ⟨(hb.cell (p := ⟨w.heap.size, 0, none⟩) hg0).trans h.c0, (hb.cell (p := ⟨w.heap.size, 1, none⟩) hg0).trans h.c1, (hb.cell (p := ⟨w.heap.size, 2, none⟩) hg0).trans h.c2, (hb.cell (p := ⟨w.heap.size, 3, none⟩) hg0).trans h.c3,
   (hb.cell (p := ⟨w.heap.size, 4, none⟩) hg0).trans h.c4, (hb.cell (p := ⟨w.heap.size, 5, none⟩) hg0).trans h.c5, (hb.cell (p := ⟨w.heap.size + 1, 0, none⟩) hg).trans h.d0, (hb.cell (p := ⟨w.heap.size + 1, 1, none⟩) hg).trans h.d1⟩

set_option maxHeartbeats 4000000 in
set_option maxRecDepth 100000 in
theorem usable_any (vn tn nb : ByteArray) (A D A2 : Option Addr) (c dl dc c2 : Nat) (G : Value) (fa tb : List UInt8) (vh nul has : Bool) (w : World) {B : Nat} (hx : Rd w B A (bv fa)) (hy : Rd w B A2 (bv tb)) (hd : Dflt w B D dl nul) (hB : B ≤ w.heap.size)
    (hc : fa.length ≤ c) (hm : c ≤ maxLen) (hc2 : tb.length ≤ c2) (hm2 : c2 ≤ maxLen) (hnt : tb.length ≤ 140737488351232) :
    Calls Try.prog 13 #[inp vn tn A fa.length c vh D dl dc G, rf nb A2 tb.length c2, .bool has] w fun e w' => e = .returned (.bool (usable tn nb fa tb vh nul has)) ∧ Below w.heap.size w w' := by
  have hb0 : Below w.heap.size w ((w.alloc (.cells #[.string vn, .string tn, .slice A fa.length c, .bool vh, .slice D dl dc, G] 33)).alloc (.cells #[.string nb, .slice A2 tb.length c2] 24)) := ((Below.refl _ _).alloc (Nat.le_refl _) _).alloc (by simp) _
  have hx0 := hx.thru hb0 hB
  have hy0 := hy.thru hb0 hB
  have hB0 := Nat.le_trans hB hb0.size
  have hT0 := Two.new w (.string vn) (.string tn) (.slice A fa.length c) (.bool vh) (.slice D dl dc) G (.string nb) (.slice A2 tb.length c2) 33 24
  have hz0 : w.heap.size + 1 < ((w.alloc (.cells #[.string vn, .string tn, .slice A fa.length c, .bool vh, .slice D dl dc, G] 33)).alloc (.cells #[.string nb, .slice A2 tb.length c2] 24)).heap.size := by simp
  unfold inp rf
  go_enter Try.func13, Try.ntmps13
  go_wp2_with fail
  refine (kindOf_any (B := B) nb A2 c2 tb _ hy0 hB0 hc2 hm2).mono ?_
  rintro e w1 ⟨v1, rfl, hv1, hb1⟩
  have hT1 := Two.keep hb1 hT0 hz0
  have hx1 := Rd.via hb1 hx0 hB0
  have hy1 := Rd.via hb1 hy0 hB0
  have hB1 := Nat.le_trans hB0 hb1.size
  have hz1 : w.heap.size + 1 < w1.heap.size := Nat.lt_of_lt_of_le hz0 hb1.size
  have hz1' : w.heap.size < w1.heap.size := by omega
  have hw1 : Below w.heap.size w w1 := hb0.trans (hb1.mono hb0.size)
  obtain ⟨T1, x1, rfl, hk1⟩ := assert_non hv1
  clear hv1 hb1 hb0 hT0 hx0 hy0 hB0 hz0
  have HT1 := Lib.hid hT1
  have hd1 := hd.keep hw1 hB
  obtain ⟨p0, p1, p2, p3, p4, p5, q0, q1⟩ := hT1
  have HK1 := Lib.hid hk1
  clear hk1
  rcases HK1.out with ⟨hh1, rfl, A', n', c', rfl⟩ | ⟨hh1, has1⟩
  · have HH1 := Lib.hid hh1
    clear hh1
    go_wp2_with fail
    have hbA : Below w1.heap.size w1 (w1.alloc (.cells #[.string nb, .slice A' n' c'] 58)) := Below.alloc (Below.refl _ _) (Nat.le_refl _) _
    refine (kindOf_any (B := B) tn A c fa _ (Rd.via hbA hx1 hB1) (Nat.le_trans hB1 hbA.size) hc hm).mono ?_
    rintro e w2 ⟨v2, rfl, hv2, hb2⟩
    have hb12 : Below w1.heap.size w1 w2 := hbA.trans (hb2.mono hbA.size)
    have hT2 := Two.keep hb12 HT1.out hz1
    have hx2 := Rd.via hb12 hx1 hB1
    have hy2 := Rd.via hb12 hy1 hB1
    have hs12 := hb12.size
    have hz2 : w.heap.size + 1 < w2.heap.size := by omega
    have hz2' : w.heap.size < w2.heap.size := by omega
    have hB2 : B ≤ w2.heap.size := by omega
    have hw2 : Below w.heap.size w w2 := hw1.trans (hb12.mono (by omega))
    have hd2 := hd1.keep hb12 hB1
    obtain ⟨T2, x2, rfl, hk2⟩ := assert_non hv2
    clear hv2 hb2 hbA hb12 hx1 hy1 p0 p1 p2 p3 p4 p5 q0 q1 hd1
    have HT2 := Lib.hid hT2
    obtain ⟨p0, p1, p2, p3, p4, p5, q0, q1⟩ := hT2
    have HK2 := Lib.hid hk2
    clear hk2
    rcases HK2.out with ⟨hh2, rfl, A'', n'', c'', rfl⟩ | ⟨hh2, has2⟩
    · have HH2 := Lib.hid hh2
      clear hh2
      clear hd2
      go_wp2_with fail
      have hbA : Below w2.heap.size w2 (w2.alloc (.cells #[.string tn, .slice A'' n'' c''] 58)) := Below.alloc (Below.refl _ _) (Nat.le_refl _) _
      refine (fits_any tn nb fa tb A A2 c c2 _ B (Rd.via hbA hx2 hB2) (Rd.via hbA hy2 hB2) (Nat.le_trans hB2 hbA.size) hc hm hc2 hm2).mono ?_
      rintro e w3 ⟨rfl, hb3⟩
      go_wp2
      go_ret
      exact ⟨ret_bool (by unfold usable; rw [if_neg (fun h => h.2 HH2.out)]), hw2.trans ((hbA.trans (hb3.mono hbA.size)).mono (by omega))⟩
    · have HH2 := Lib.hid hh2
      clear hh2
      have HS2 := Lib.hid hd2
      clear hd2
      go_upto_region 5 with fail
      go_cut [11] (fun s11 wx => s11 = .bool nul ∧ wx = w2.alloc (.cells #[.string ⟨#[]⟩, .slice none 0 0] 58))
      case first =>
        rcases HS2.out with ⟨rfl, hnul⟩ | ⟨hl, b, off, kd, rfl, hbb, hcell, hnul⟩
        · subst hnul
          go_wp2_with fail
          go_meet
          exact ⟨rfl, rfl⟩
        · have hcA : (w2.alloc (.cells #[.string ⟨#[]⟩, .slice none 0 0] 58)).cell? ⟨b, off, none⟩ = some (.int .u8 kd) := (World.cell?_alloc_lt _ _ _ (by show b < _; omega)).trans hcell
          have hl' : (0 : Int) < dl := by omega
          subst hnul
          clear hcell
          go_wp2_with fail
          go_meet
          exact ⟨rfl, rfl⟩
      case rest =>
        obtain ⟨rfl, rfl⟩ := hcut
        clear HS2 hd
        cases has
        · cases vh
          · go_wp2
            go_quiet (fail)
            go_wp2
            go_ret
            exact ⟨ret_bool (by unfold usable; rw [if_pos ⟨HH1.out, HH2.out⟩]; simp), ((hw2.alloc (by omega) _).drewN' _)⟩
          · cases nul
            · go_wp2_with fail
              have hbA : Below w2.heap.size w2 (w2.alloc (.cells #[.string ⟨#[]⟩, .slice none 0 0] 58)) := Below.alloc (Below.refl _ _) (Nat.le_refl _) _
              have hTA := Two.keep hbA HT2.out hz2
              have hxA := Rd.via hbA hx2 hB2
              have hyA := Rd.via hbA hy2 hB2
              have hBA := Nat.le_trans hB2 hbA.size
              have hzA : w.heap.size + 1 < (w2.alloc (.cells #[.string ⟨#[]⟩, .slice none 0 0] 58)).heap.size := Nat.lt_of_lt_of_le hz2 hbA.size
              have hTd : Two w (World.drew (w2.alloc (.cells #[.string ⟨#[]⟩, .slice none 0 0] 58))) _ _ _ _ _ _ _ _ := ⟨hTA.c0, hTA.c1, hTA.c2, hTA.c3, hTA.c4, hTA.c5, hTA.d0, hTA.d1⟩
              have hyd : Rd (World.drew (w2.alloc (.cells #[.string ⟨#[]⟩, .slice none 0 0] 58))) B A2 (bv tb) := hyA
              have hxd : Rd (World.drew (w2.alloc (.cells #[.string ⟨#[]⟩, .slice none 0 0] 58))) B A (bv fa) := hxA
              obtain ⟨j0, j1, j2, j3, j4, j5, j6, j7⟩ := hTA
              first | go_region_with (first | (go_at_call 12; refine (bareX (B := B) nb A2 c2 tb _ ?hy1 ?hB1 hc2 hm2 hnt).mono ?_; (case hy1 => exact hyd); (case hB1 => exact hBA); rintro e w3 ⟨A3, c3, rfl, hown, hb3⟩; have hT3 := Two.keep hb3 hTd hzA; have hx3 := Rd.via hb3 hxd hBA; have hB3 := Nat.le_trans hBA hb3.size; have hz3 := Nat.lt_of_lt_of_le hzA hb3.size; obtain ⟨i0, i1, i2, i3, i4, i5, i6, i7⟩ := hT3) | (go_at_call 9; refine (fitsX tn nb A A3 c c3 fa (bare tb) _ w3.heap.size ?hy2 ?hy3 ?hy4 hc hm ?hy5 ?hy6).mono ?_; (case hy2 => exact hx3.mono hB3); (case hy3 => exact Rd.of_own hown); (case hy4 => exact Nat.le_refl _); (case hy5 => exact own_len hown); (case hy6 => exact own_cap hown); rintro e w4 ⟨rfl, hb4⟩)) | fail
              all_goals go_wp2
              all_goals go_ret
              all_goals exact ⟨ret_bool (by unfold usable; rw [if_pos ⟨HH1.out, HH2.out⟩]; simp), (hw2.alloc (by omega) _).drew.trans ((hb3.trans (hb4.mono hb3.size)).mono (by simp; omega))⟩
            · go_wp2
              go_quiet (fail)
              go_wp2
              go_ret
              exact ⟨ret_bool (by unfold usable; rw [if_pos ⟨HH1.out, HH2.out⟩]; simp), ((hw2.alloc (by omega) _).drewN' _)⟩
        · go_wp2_with fail
          have hbA : Below w2.heap.size w2 (w2.alloc (.cells #[.string ⟨#[]⟩, .slice none 0 0] 58)) := Below.alloc (Below.refl _ _) (Nat.le_refl _) _
          have hTA := Two.keep hbA HT2.out hz2
          have hxA := Rd.via hbA hx2 hB2
          have hyA := Rd.via hbA hy2 hB2
          have hBA := Nat.le_trans hB2 hbA.size
          have hzA : w.heap.size + 1 < (w2.alloc (.cells #[.string ⟨#[]⟩, .slice none 0 0] 58)).heap.size := Nat.lt_of_lt_of_le hz2 hbA.size
          have hTd : Two w (World.drew (w2.alloc (.cells #[.string ⟨#[]⟩, .slice none 0 0] 58))) _ _ _ _ _ _ _ _ := ⟨hTA.c0, hTA.c1, hTA.c2, hTA.c3, hTA.c4, hTA.c5, hTA.d0, hTA.d1⟩
          have hyd : Rd (World.drew (w2.alloc (.cells #[.string ⟨#[]⟩, .slice none 0 0] 58))) B A2 (bv tb) := hyA
          have hxd : Rd (World.drew (w2.alloc (.cells #[.string ⟨#[]⟩, .slice none 0 0] 58))) B A (bv fa) := hxA
          obtain ⟨j0, j1, j2, j3, j4, j5, j6, j7⟩ := hTA
          first | go_region_with (first | (go_at_call 12; refine (bareX (B := B) nb A2 c2 tb _ ?hy1 ?hB1 hc2 hm2 hnt).mono ?_; (case hy1 => exact hyd); (case hB1 => exact hBA); rintro e w3 ⟨A3, c3, rfl, hown, hb3⟩; have hT3 := Two.keep hb3 hTd hzA; have hx3 := Rd.via hb3 hxd hBA; have hB3 := Nat.le_trans hBA hb3.size; have hz3 := Nat.lt_of_lt_of_le hzA hb3.size; obtain ⟨i0, i1, i2, i3, i4, i5, i6, i7⟩ := hT3) | (go_at_call 9; refine (fitsX tn nb A A3 c c3 fa (bare tb) _ w3.heap.size ?hy2 ?hy3 ?hy4 hc hm ?hy5 ?hy6).mono ?_; (case hy2 => exact hx3.mono hB3); (case hy3 => exact Rd.of_own hown); (case hy4 => exact Nat.le_refl _); (case hy5 => exact own_len hown); (case hy6 => exact own_cap hown); rintro e w4 ⟨rfl, hb4⟩)) | fail
          all_goals go_wp2
          all_goals go_ret
          all_goals exact ⟨ret_bool (by unfold usable; rw [if_pos ⟨HH1.out, HH2.out⟩]; simp), (hw2.alloc (by omega) _).drew.trans ((hb3.trans (hb4.mono hb3.size)).mono (by simp; omega))⟩
  · have HH1 := Lib.hid hh1
    clear hh1
    go_wp2_with fail
    have hbA : Below w1.heap.size w1 (w1.alloc (.cells #[.string ⟨#[]⟩, .slice none 0 0] 58)) := Below.alloc (Below.refl _ _) (Nat.le_refl _) _
    refine (kindOf_any (B := B) tn A c fa _ (Rd.via hbA hx1 hB1) (Nat.le_trans hB1 hbA.size) hc hm).mono ?_
    rintro e w2 ⟨v2, rfl, hv2, hb2⟩
    have hb12 : Below w1.heap.size w1 w2 := hbA.trans (hb2.mono hbA.size)
    have hT2 := Two.keep hb12 HT1.out hz1
    have hx2 := Rd.via hb12 hx1 hB1
    have hy2 := Rd.via hb12 hy1 hB1
    have hs12 := hb12.size
    have hz2 : w.heap.size + 1 < w2.heap.size := by omega
    have hz2' : w.heap.size < w2.heap.size := by omega
    have hB2 : B ≤ w2.heap.size := by omega
    have hw2 : Below w.heap.size w w2 := hw1.trans (hb12.mono (by omega))
    have hd2 := hd1.keep hb12 hB1
    obtain ⟨T2, x2, rfl, hk2⟩ := assert_non hv2
    clear hv2 hb2 hbA hb12 hx1 hy1 p0 p1 p2 p3 p4 p5 q0 q1 hd1
    have HT2 := Lib.hid hT2
    obtain ⟨p0, p1, p2, p3, p4, p5, q0, q1⟩ := hT2
    have HK2 := Lib.hid hk2
    clear hk2
    rcases HK2.out with ⟨hh2, rfl, A'', n'', c'', rfl⟩ | ⟨hh2, has2⟩
    · clear hh2
      clear hd2
      go_wp2_with fail
      have hbA : Below w2.heap.size w2 (w2.alloc (.cells #[.string tn, .slice A'' n'' c''] 58)) := Below.alloc (Below.refl _ _) (Nat.le_refl _) _
      refine (fits_any tn nb fa tb A A2 c c2 _ B (Rd.via hbA hx2 hB2) (Rd.via hbA hy2 hB2) (Nat.le_trans hB2 hbA.size) hc hm hc2 hm2).mono ?_
      rintro e w3 ⟨rfl, hb3⟩
      go_wp2
      go_ret
      exact ⟨ret_bool (by unfold usable; rw [if_neg (fun h => HH1.out h.1)]), hw2.trans ((hbA.trans (hb3.mono hbA.size)).mono (by omega))⟩
    · clear hh2
      clear hd2
      go_wp2_with fail
      have hbA : Below w2.heap.size w2 (w2.alloc (.cells #[.string ⟨#[]⟩, .slice none 0 0] 58)) := Below.alloc (Below.refl _ _) (Nat.le_refl _) _
      refine (fits_any tn nb fa tb A A2 c c2 _ B (Rd.via hbA hx2 hB2) (Rd.via hbA hy2 hB2) (Nat.le_trans hB2 hbA.size) hc hm hc2 hm2).mono ?_
      rintro e w3 ⟨rfl, hb3⟩
      go_wp2
      go_ret
      exact ⟨ret_bool (by unfold usable; rw [if_neg (fun h => HH1.out h.1)]), hw2.trans ((hbA.trans (hb3.mono hbA.size)).mono (by omega))⟩
end Go.Proofs.Ytgoecnhkmfnenaa
