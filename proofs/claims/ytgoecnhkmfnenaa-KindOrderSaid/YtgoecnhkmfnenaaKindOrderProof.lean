/- KindOrder: a type that may be fits itself, fitting goes through, and two that fit each other are one. Conditions: none. -/
import Derived.Test.YtgoecnhkmfnenaaRows
import Derived.Test.YtgoecnhkmfnenaaOrd
import Derived.Test.YtgoecnhkmfnenaaTokens
import Derived.Test.YtgoecnhkmfnenaaSame
import Derived.Test.YtgoecnhkmfnenaaNewR
import Derived.Test.YtgoecnhkmfnenaaKOpen
import Derived.ProofKit
import Derived.Deep.RegionHeld3
import Derived.Deep.DeepCutAuto
namespace Go.Proofs.Ytgoecnhkmfnenaa.kindOrder
open Go.RowKit
section
open Go.ChangeShapes Go.WideShapes Go.ChangeAt
variable {H : Type} {enc : TypeId × Value → H} {W : World}
set_option maxRecDepth 100000 in
theorem open_refS {r : Reach} {b0 : Nat} {v : Value} {d : DataW H} {p : List MemPlace} (hv : Value.okWide Try.prog W r b0 24 v) (h : DataW.Trod enc Try.prog W 0 (fun _ => true) true 24 v d p) :
    ∃ (nb : ByteArray) (A : Option Addr) (c : Nat) (ws : List UInt8), v = .agg #[.string nb, .slice A ws.length c] ∧ Rd W W.heap.size A (bv ws) ∧ ws.length ≤ c ∧ c ≤ maxLen ∧ nb.size ≤ maxLen := by
  obtain ⟨nb, A, c, ws, rfl, h1, h2, h3⟩ := open_ref hv h
  obtain ⟨fuel, hf⟩ := h
  obtain ⟨y0, y1, m, _, hl, h0, h1'⟩ := trod_struct2 Try.underlying24 hf
  rw [show Try.prog.cellsOf 9 = 1 by kernel_rfl] at h0
  obtain ⟨s, e0, _, hs⟩ := DataW.trod_string Try.underlying9 h0
  simp [rf, Value.cells] at e0
  subst e0
  exact ⟨nb, A, c, ws, rfl, h1, h2, h3, hs⟩
end
theorem box_new (w : World) (nm : ByteArray) (A : Option Addr) (n c : Nat) : BoxR (w.alloc (.cells #[.string nm, .slice A n c] 24)) w.heap.size nm A n c := by
  refine ⟨by simp, ?_, ?_, ?_, ?_⟩
  · simp [World.cell?_alloc_new]
  · simp [World.cell?_alloc_new]
  · exact World.frozen?_alloc_at _ _ _ _ rfl
  · exact World.frozen?_alloc_at _ _ _ _ rfl
theorem box_old {w : World} {g : Nat} {nm : ByteArray} {A : Option Addr} {n c : Nat} (h : BoxR w g nm A n c) (o : Obj) : BoxR (w.alloc o) g nm A n c :=
  h.keep ((Below.refl _ _).alloc (Nat.le_refl _) _)
theorem box_at {w : World} {g g' : Nat} {nm : ByteArray} {A : Option Addr} {n c : Nat} (h : BoxR w g nm A n c) (e : g = g') : BoxR w g' nm A n c := e ▸ h
theorem boxes3 (w : World) (na nb nc : ByteArray) (A A2 A3 : Option Addr) (n c n2 c2 n3 c3 : Nat) {W : World} (hW : W = ((w.alloc (.cells #[.string na, .slice A n c] 24)).alloc (.cells #[.string nb, .slice A2 n2 c2] 24)).alloc (.cells #[.string nc, .slice A3 n3 c3] 24)) :
    BoxR W w.heap.size na A n c ∧ BoxR W (w.heap.size + 1) nb A2 n2 c2 ∧ BoxR W (w.heap.size + 2) nc A3 n3 c3 ∧ Below w.heap.size w W := by
  subst hW
  refine ⟨box_old (box_old (box_new ..) _) _, box_at (box_old (box_new ..) _) (by simp), box_at (box_new ..) (by simp), ?_⟩
  exact (((Below.refl _ _).alloc (Nat.le_refl _) _).alloc (by simp) _).alloc (by simp; omega) _
/-- the six cells, and that nothing else has changed -/
def Six (w1 : World) (g : Nat) (na nb nc : ByteArray) (A A2 A3 : Option Addr) (n c n2 c2 n3 c3 : Nat) (W : World) : Prop :=
  BoxR w1 g na A n c ∧ BoxR w1 (g + 1) nb A2 n2 c2 ∧ BoxR w1 (g + 2) nc A3 n3 c3 ∧ Below w1.heap.size w1 W
theorem law_end (na nb nc : ByteArray) (fa tb uc : List UInt8) (F1 F2 F3 : Bool) (h1 : fits na nb fa tb = F1) (h2 : fits nb na tb fa = F2) (h3 : fits nb nc tb uc = F3) :
    (F1 = true → F3 = true → fits na nc fa uc = true) ∧ (F1 = true → F2 = true → na = nb ∧ fa = tb) := by
  refine ⟨fun e1 e3 => ?_, fun e1 e2 => ?_⟩
  · subst h1 h3
    exact of_fit (fit_trans (fit_of e1) (fit_of e3))
  · subst h1 h2
    exact fit_anti (fit_of e1) (fit_of e2)
set_option maxHeartbeats 8000000 in
set_option maxRecDepth 100000 in
theorem walk_small (na nb nc : ByteArray) (A A2 A3 : Option Addr) (c c2 c3 : Nat) (fa tb uc : List UInt8) (w : World) {B : Nat} (hx : Rd w B A (bv fa)) (hy : Rd w B A2 (bv tb)) (hz : Rd w B A3 (bv uc)) (hB : B ≤ w.heap.size)
    (hc : fa.length ≤ c) (hm : c ≤ maxLen) (hc2 : tb.length ≤ c2) (hm2 : c2 ≤ maxLen) (hc3 : uc.length ≤ c3) (hm3 : c3 ≤ maxLen) (hs : na.size ≤ maxLen) (n1 : fa.length ≤ 20) (n2 : tb.length ≤ 20) (n3 : uc.length ≤ 20) :
    Calls Try.prog 5 #[.agg #[.string na, .slice A fa.length c], .agg #[.string nb, .slice A2 tb.length c2], .agg #[.string nc, .slice A3 uc.length c3]] w fun e w' => e = .returned (.bool true) ∧ Below w.heap.size w w' := by
  obtain ⟨ga, gb, gc, hb0⟩ := boxes3 w na nb nc A A2 A3 fa.length c tb.length c2 uc.length c3 rfl
  have m1 : (fa.length : Int) ≤ 20 := by omega
  have m2 : (tb.length : Int) ≤ 20 := by omega
  have m3 : (uc.length : Int) ≤ 20 := by omega
  go_enter Try.func5, Try.ntmps5
  go_wp2_with fail
  refine (alive_any _).mono ?_
  rintro e w1 ⟨rfl, hb1⟩
  replace ga := ga.keep hb1
  replace gb := gb.keep hb1
  replace gc := gc.keep hb1
  have hB1 : Below w.heap.size w w1 := hb0.trans (hb1.mono hb0.size)
  have hx1 := Rd.via hB1 hx hB
  clear hb0 hb1
  have HA := Lib.hid ga
  have HB := Lib.hid gb
  have HC := Lib.hid gc
  obtain ⟨a1, a2, a3, a4, a5⟩ := ga
  obtain ⟨b1, b2, b3, b4, b5⟩ := gb
  obtain ⟨c1, c2', c3', c4, c5⟩ := gc
  go_wp2_with fail
  refine (tokens_any na A c fa _ hx1 (Nat.le_trans hB hB1.size) hc hm hs).mono ?_
  rintro e w2 ⟨⟨v, k, rfl, hk⟩, hb2⟩
  clear a1 a2 a3 a4 a5 b1 b2 b3 b4 b5 c1 c2' c3' c4 c5 hx1
  have ga := HA.out.keep hb2
  have gb := HB.out.keep hb2
  have gc := HC.out.keep hb2
  clear HA HB HC
  have hB2 : Below w.heap.size w w2 := hB1.trans (hb2.mono hB1.size)
  clear hB1 hb2
  have HA := Lib.hid ga
  have HB := Lib.hid gb
  have HC := Lib.hid gc
  have hy2 := Rd.via hB2 hy hB
  have hz2 := Rd.via hB2 hz hB
  have hx2 := Rd.via hB2 hx hB
  have hBw := Nat.le_trans hB hB2.size
  by_cases hk0 : k = 0
  case' pos =>
    have hR := of_fit (fit_refl na fa (hk hk0))
    subst hk0
    clear hk
    have hfit := fits_any na na fa fa A A c c w2 B hx2 hx2 hBw hc hm hc hm
    unfold rf at hfit
    rw [hR] at hfit
    clear hR
    obtain ⟨a1, a2, a3, a4, a5⟩ := ga
    go_wp2_with fail
    refine hfit.mono ?_
    rintro e w3 ⟨rfl, hb3⟩
    clear a1 a2 a3 a4 a5 hfit gb gc
    have hB3 := hB2.trans (hb3.mono hB2.size)
    have ga := HA.out.keep hb3
    have gb := HB.out.keep hb3
    have gc := HC.out.keep hb3
    clear HA HB HC hb3 hx2 hy2 hz2 hBw hB2
    go_upto_region 7 with fail
  case' neg =>
    have hkb : (k == 0) = false := by simpa using hk0
    clear hk hk0 HA HB HC hx2 hy2 hz2 hBw
    obtain ⟨w3, rfl⟩ : ∃ w3, w3 = w2 := ⟨_, rfl⟩
    have hB3 := hB2
    clear hB2
    go_upto_region 7 with fail
  all_goals
    have hx3 := (Rd.via hB3 hx hB).mono (Nat.le_trans hB hB3.size)
    have hy3 := (Rd.via hB3 hy hB).mono (Nat.le_trans hB hB3.size)
    have hz3 := (Rd.via hB3 hz hB).mono (Nat.le_trans hB hB3.size)
    obtain ⟨F1, hF1⟩ : ∃ F, fits na nb fa tb = F := ⟨_, rfl⟩
    obtain ⟨F2, hF2⟩ : ∃ F, fits nb na tb fa = F := ⟨_, rfl⟩
    obtain ⟨F3, hF3⟩ : ∃ F, fits nb nc tb uc = F := ⟨_, rfl⟩
    have hend := law_end na nb nc fa tb uc F1 F2 F3 hF1 hF2 hF3
    have S8 : ∀ {W : World}, Below w3.heap.size w3 W → Below w3.heap.size w3 W ∧ W.cell? ⟨w.heap.size, 0, none⟩ = some (.string na) ∧ W.cell? ⟨w.heap.size, 1, none⟩ = some (.slice A fa.length c) ∧ W.cell? ⟨w.heap.size + 1, 0, none⟩ = some (.string nb) ∧ W.cell? ⟨w.heap.size + 1, 1, none⟩ = some (.slice A2 tb.length c2) ∧ W.cell? ⟨w.heap.size + 1 + 1, 0, none⟩ = some (.string nc) ∧ W.cell? ⟨w.heap.size + 1 + 1, 1, none⟩ = some (.slice A3 uc.length c3) :=
      fun h => ⟨h, (ga.keep h).2.1, (ga.keep h).2.2.1, (gb.keep h).2.1, (gb.keep h).2.2.1, (gc.keep h).2.1, (gc.keep h).2.2.1⟩
    have k1 : ∀ W, Below w3.heap.size w3 W → Calls Try.prog 9 #[.agg #[.string na, .slice A fa.length c], .agg #[.string nb, .slice A2 tb.length c2]] W fun e w' => e = .returned (.bool F1) ∧ Below W.heap.size W w' := fun W h => by
      have := fits_any na nb fa tb A A2 c c2 W w3.heap.size (Rd.via h hx3 (Nat.le_refl _)) (Rd.via h hy3 (Nat.le_refl _)) h.size hc hm hc2 hm2
      rw [hF1] at this
      exact this
    have k2 : ∀ W, Below w3.heap.size w3 W → Calls Try.prog 9 #[.agg #[.string nb, .slice A2 tb.length c2], .agg #[.string na, .slice A fa.length c]] W fun e w' => e = .returned (.bool F2) ∧ Below W.heap.size W w' := fun W h => by
      have := fits_any nb na tb fa A2 A c2 c W w3.heap.size (Rd.via h hy3 (Nat.le_refl _)) (Rd.via h hx3 (Nat.le_refl _)) h.size hc2 hm2 hc hm
      rw [hF2] at this
      exact this
    have k3 : ∀ W, Below w3.heap.size w3 W → Calls Try.prog 9 #[.agg #[.string nb, .slice A2 tb.length c2], .agg #[.string nc, .slice A3 uc.length c3]] W fun e w' => e = .returned (.bool F3) ∧ Below W.heap.size W w' := fun W h => by
      have := fits_any nb nc tb uc A2 A3 c2 c3 W w3.heap.size (Rd.via h hy3 (Nat.le_refl _)) (Rd.via h hz3 (Nat.le_refl _)) h.size hc2 hm2 hc3 hm3
      rw [hF3] at this
      exact this
    have k4 : ∀ W, F1 = true → F3 = true → Below w3.heap.size w3 W → Calls Try.prog 9 #[.agg #[.string na, .slice A fa.length c], .agg #[.string nc, .slice A3 uc.length c3]] W fun e w' => e = .returned (.bool true) ∧ Below W.heap.size W w' := fun W e1 e3 h => by
      have := fits_any na nc fa uc A A3 c c3 W w3.heap.size (Rd.via h hx3 (Nat.le_refl _)) (Rd.via h hz3 (Nat.le_refl _)) h.size hc hm hc3 hm3
      rw [hend.1 e1 e3] at this
      exact this
    have k5 : ∀ W, F1 = true → F2 = true → Below w3.heap.size w3 W → Calls Try.prog 11 #[.agg #[.string na, .slice A fa.length c], .agg #[.string nb, .slice A2 tb.length c2]] W fun e w' => e = .returned (.bool true) ∧ Below W.heap.size W w' := fun W e1 e2 h => by
      obtain ⟨g1, g2⟩ := hend.2 e1 e2
      have := same_any na nb A A2 c c2 fa tb W (Rd.via h hx3 (Nat.le_refl _)) (Rd.via h hy3 (Nat.le_refl _)) h.size
      rw [decide_eq_true g1, decide_eq_true g2] at this
      exact this
    have hD : Below w3.heap.size w3 w3.drew := (Below.refl _ _).drew
    clear ga gb gc hF1 hF2 hF3 hend hx3 hy3 hz3
    go_region_held3 (fun W => Below w3.heap.size w3 W ∧ W.cell? ⟨w.heap.size, 0, none⟩ = some (.string na) ∧ W.cell? ⟨w.heap.size, 1, none⟩ = some (.slice A fa.length c) ∧ W.cell? ⟨w.heap.size + 1, 0, none⟩ = some (.string nb) ∧ W.cell? ⟨w.heap.size + 1, 1, none⟩ = some (.slice A2 tb.length c2) ∧ W.cell? ⟨w.heap.size + 1 + 1, 0, none⟩ = some (.string nc) ∧ W.cell? ⟨w.heap.size + 1 + 1, 1, none⟩ = some (.slice A3 uc.length c3)) (exact S8 hD)
      (first
        | (go_at_call 9; (with_reducible refine (k1 _ ?_).mono ?_); exact hD; rintro e X ⟨rfl, hb9⟩; replace hD := hD.trans (hb9.mono hD.size))
        | (go_at_call 9; (with_reducible refine (k2 _ ?_).mono ?_); exact hD; rintro e X ⟨rfl, hb9⟩; replace hD := hD.trans (hb9.mono hD.size))
        | (go_at_call 9; (with_reducible refine (k3 _ ?_).mono ?_); exact hD; rintro e X ⟨rfl, hb9⟩; replace hD := hD.trans (hb9.mono hD.size)))
    all_goals
      clear k1 k2 k3
      cases F1
      · clear k4 k5
        go_wp2
        go_ret
        exact ⟨rfl, hB3.trans (hD.mono hB3.size)⟩
      · have k4 := fun W => k4 W rfl
        have k5 := fun W => k5 W rfl
        cases F3
        · clear k4
          cases F2
          · clear k5
            go_wp2
            go_ret
            exact ⟨rfl, hB3.trans (hD.mono hB3.size)⟩
          · obtain ⟨t0, t1, t2, t3, t4, t5, t6⟩ := S8 hD
            go_wp2_with fail
            refine (k5 _ trivial t0).mono ?_
            rintro e w9 ⟨rfl, hb9⟩
            go_wp2
            go_ret
            exact ⟨rfl, hB3.trans ((hD.trans (hb9.mono hD.size)).mono hB3.size)⟩
        · obtain ⟨t0, t1, t2, t3, t4, t5, t6⟩ := S8 hD
          cases F2
          · clear k5
            go_wp2_with fail
            refine (k4 _ trivial t0).mono ?_
            rintro e w9 ⟨rfl, hb9⟩
            go_wp2
            go_ret
            exact ⟨rfl, hB3.trans ((hD.trans (hb9.mono hD.size)).mono hB3.size)⟩
          · go_wp2_with fail
            refine (k4 _ trivial t0).mono ?_
            rintro e w9 ⟨rfl, hb9⟩
            replace hD := hD.trans (hb9.mono hD.size)
            clear t0 t1 t2 t3 t4 t5 t6
            obtain ⟨t0, t1, t2, t3, t4, t5, t6⟩ := S8 hD
            go_wp2_with fail
            refine (k5 _ trivial t0).mono ?_
            rintro e w10 ⟨rfl, hb10⟩
            go_wp2
            go_ret
            exact ⟨rfl, hB3.trans ((hD.trans (hb10.mono hD.size)).mono hB3.size)⟩
set_option maxHeartbeats 2000000 in
set_option maxRecDepth 100000 in
theorem walk_big (na nb nc : ByteArray) (A A2 A3 : Option Addr) (c c2 c3 : Nat) (n m q : Nat) (w : World) (h : 20 < n ∨ 20 < m ∨ 20 < q) :
    Calls Try.prog 5 #[.agg #[.string na, .slice A n c], .agg #[.string nb, .slice A2 m c2], .agg #[.string nc, .slice A3 q c3]] w fun e w' => e = .returned (.bool true) ∧ Below w.heap.size w w' := by
  obtain ⟨ga, gb, gc, hb0⟩ := boxes3 w na nb nc A A2 A3 n c m c2 q c3 rfl
  by_cases h1 : (20 : Int) < n
  · have hd : decide ((20 : Int) < n) = true := by simpa using h1
    go_enter Try.func5, Try.ntmps5
    go_wp2_with fail
    refine (alive_any _).mono ?_
    rintro e w1 ⟨rfl, hb1⟩
    replace ga := ga.keep hb1
    replace gb := gb.keep hb1
    replace gc := gc.keep hb1
    obtain ⟨a1, a2, a3, a4, a5⟩ := ga
    obtain ⟨b1, b2, b3, b4, b5⟩ := gb
    obtain ⟨c1, c2', c3', c4, c5⟩ := gc
    go_wp2
    go_ret
    exact ⟨rfl, hb0.trans (hb1.mono hb0.size)⟩
  · have hd : decide ((20 : Int) < n) = false := by simpa using h1
    by_cases h2 : (20 : Int) < m
    · have hd2 : decide ((20 : Int) < m) = true := by simpa using h2
      go_enter Try.func5, Try.ntmps5
      go_wp2_with fail
      refine (alive_any _).mono ?_
      rintro e w1 ⟨rfl, hb1⟩
      replace ga := ga.keep hb1
      replace gb := gb.keep hb1
      replace gc := gc.keep hb1
      obtain ⟨a1, a2, a3, a4, a5⟩ := ga
      obtain ⟨b1, b2, b3, b4, b5⟩ := gb
      obtain ⟨c1, c2', c3', c4, c5⟩ := gc
      go_wp2
      go_ret
      exact ⟨rfl, hb0.trans (hb1.mono hb0.size)⟩
    · have hd2 : decide ((20 : Int) < m) = false := by simpa using h2
      have h3 : (20 : Int) < q := by omega
      have hd3 : decide ((20 : Int) < q) = true := by simpa using h3
      go_enter Try.func5, Try.ntmps5
      go_wp2_with fail
      refine (alive_any _).mono ?_
      rintro e w1 ⟨rfl, hb1⟩
      replace ga := ga.keep hb1
      replace gb := gb.keep hb1
      replace gc := gc.keep hb1
      obtain ⟨a1, a2, a3, a4, a5⟩ := ga
      obtain ⟨b1, b2, b3, b4, b5⟩ := gb
      obtain ⟨c1, c2', c3', c4, c5⟩ := gc
      go_wp2
      go_ret
      exact ⟨rfl, hb0.trans (hb1.mono hb0.size)⟩
theorem walk (na nb nc : ByteArray) (A A2 A3 : Option Addr) (c c2 c3 : Nat) (fa tb uc : List UInt8) (w : World) {B : Nat} (hx : Rd w B A (bv fa)) (hy : Rd w B A2 (bv tb)) (hz : Rd w B A3 (bv uc)) (hB : B ≤ w.heap.size)
    (hc : fa.length ≤ c) (hm : c ≤ maxLen) (hc2 : tb.length ≤ c2) (hm2 : c2 ≤ maxLen) (hc3 : uc.length ≤ c3) (hm3 : c3 ≤ maxLen) (hs : na.size ≤ maxLen) :
    Calls Try.prog 5 #[.agg #[.string na, .slice A fa.length c], .agg #[.string nb, .slice A2 tb.length c2], .agg #[.string nc, .slice A3 uc.length c3]] w fun e w' => e = .returned (.bool true) ∧ Below w.heap.size w w' := by
  by_cases h : fa.length ≤ 20 ∧ tb.length ≤ 20 ∧ uc.length ≤ 20
  · exact walk_small na nb nc A A2 A3 c c2 c3 fa tb uc w hx hy hz hB hc hm hc2 hm2 hc3 hm3 hs h.1 h.2.1 h.2.2
  · exact walk_big na nb nc A A2 A3 c c2 c3 fa.length tb.length uc.length w (by omega)
open Go.ChangeShapes Go.WideShapes Go.ChangeAt
open Go.ChangeMaps (open_string shut_string)
theorem own : ownKnob Try.prog.godebug = none := by kernel_rfl
theorem laidOut : laidOutB Try.prog = true := by kernel_rfl
set_option maxRecDepth 100000 in
theorem lifted (os : Os) (started : os.Started) (H : Type) (enc : TypeId × Value → H) :
    ReturnsInHanded {} Try.checked os 5 .any (Rows.kindOrderSpec.pre6 enc Try.prog Try.f5 Rows.kindOrderRow.domain false) (Rows.kindOrderSpec.post enc Try.prog Try.f5 false true false false) := by
  refine returnsInHanded_of_change_shaped (C := Try.checked) own started (by kernel_rfl) Try.func5
    (ChangeSpec.witness6 (enc := enc) (C := Try.checked) false ⟨#[], #[.agg #[.string ⟨#[]⟩, .slice none 0 0], .agg #[.string ⟨#[]⟩, .slice none 0 0], .agg #[.string ⟨#[]⟩, .slice none 0 0]], []⟩ 8 (by kernel_rfl) (by kernel_rfl) (by kernel_rfl) (by kernel_rfl)) ?_
  intro W base args ds gs before hval0 hW _ hsz0 hsh0 _
  have hsh : W.ShapedOpen Try.prog := hsh0
  have hsz : (DataW.weightsEach Try.prog (Try.f5.params.toList ++ Rows.kindOrderSpec.plain.varTypes Try.prog) (ds ++ gs)).all (· ≤ reachBytes) = true := hsz0
  clear hsz0 hsh0
  have hval : ∀ (j : Nat) t v, Try.f5.params[j]? = some t → args[j]? = some v → Value.okWide Try.prog W .any base t v := hval0
  have hW' := hW
  obtain ⟨p, q, hA0, hV, rfl, hfz, hnd⟩ := hW
  have hA : DataW.TrodAll enc Try.prog W 0 (fun _ => true) true Try.f5.params.toList args.toList ds p := hA0
  rw [Try.params5] at hA hval hsz
  have hlt0 : ∀ x ∈ p, x.block < W.heap.size := fun x hx => hW'.lt x (by simp [hx])
  obtain ⟨v0, vs0, d0, ds0, p0, q0, hargs, rfl, rfl, h0, r0⟩ := trodAll_cons hA
  obtain ⟨v1, vs1, d1, ds1, p1, q1, rfl, rfl, rfl, h1, r1⟩ := trodAll_cons r0
  obtain ⟨v2, vs2, d2, ds2, p2, q2, rfl, rfl, rfl, h2, r2⟩ := trodAll_cons r1
  obtain ⟨rfl, rfl, rfl⟩ := trodAll_nil r2
  obtain rfl : args = #[v0, v1, v2] := by cases args; simp_all
  obtain ⟨rfl, rfl⟩ := trodVars_none hV
  obtain ⟨nma, Aa, ca, a, rfl, ha, la, ma, sa⟩ := open_refS (hval 0 24 v0 rfl rfl) h0
  obtain ⟨nmb, Ab, cb, b, rfl, hb, lb, mb, sb⟩ := open_refS (hval 1 24 v1 rfl rfl) h1
  obtain ⟨nmc, Ac, cc, c, rfl, hc, lc, mc, sc⟩ := open_refS (hval 2 24 v2 rfl rfl) h2
  clear hA0 hval0
  refine (walk nma nmb nmc Aa Ab Ac ca cb cc a b c W ha hb hc (Nat.le_refl _) la ma lb mb lc mc sa).mono fun e W' ⟨he, hb⟩ => ⟨_, he, ?_⟩
  exact law_post laidOut (of_decide_eq_true (by kernel_rfl)) rfl rfl Try.underlying4 (fun ds hl => by
    match ds, hl with
    | [_, _, _], _ => rfl) hW' hb

theorem proved : Rows.KindOrderSaid :=
  OpenClaim.holds_of_wide 5 Try.f5 rfl rfl rfl rfl rfl rfl rfl ⟨rfl, rfl, rfl, rfl, rfl⟩ rfl rfl rfl rfl rfl (by kernel_rfl) Try.func5 (by kernel_rfl)
    (of_decide_eq_true (by kernel_rfl)) (by unfold Func.isWrapper; first | (rw [if_pos (by decide +kernel)]; kernel_rfl) | (rw [if_neg (by decide +kernel)]; exact ⟨rfl, rfl⟩))
    (fun os started H enc _ => lifted os started H enc)
end Go.Proofs.Ytgoecnhkmfnenaa.kindOrder
