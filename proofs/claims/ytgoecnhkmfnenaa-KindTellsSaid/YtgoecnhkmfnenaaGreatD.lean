/- The reference's Great over definitions: it answers, and writes nothing that was there. Conditions: lengths within the model's. -/
import Derived.Test.YtgoecnhkmfnenaaGreat
namespace Go.Proofs.Ytgoecnhkmfnenaa
open Go.RowKit
theorem bt {B : Nat} {a w w' : World} (h : Below B a w) (hB : B ≤ w.heap.size) (hb : Below w.heap.size w w') : Below B a w' := h.trans (hb.mono hB)
theorem bAl (w : World) (o : Obj) : Below w.heap.size w (w.alloc o) := (Below.refl _ _).alloc (Nat.le_refl _) _
theorem bDr {B : Nat} {a w : World} (h : Below B a w) (n : Nat) : Below B a (w.drewN n) := h.drewN' n
theorem greatInputs_any (v : Value) (w : World) {B : Nat} (h : Sl B 6 (InpE w B) v) : Calls Try.prog 32 #[v] w (Det (gInps w v) w) := by
  have hc := fun m => greatInps v (w.drewN m) (h.imp (Nat.le_refl _) fun _ _ hb x => InpE.keep (kp_drewN w m B) (Nat.le_refl _) hb x)
  have hd : ∀ m, gInps (w.drewN m) v = gInps w v := fun _ => rfl
  simp only [hd] at hc
  have hc0 := greatInps v w h
  generalize gInps w v = G at *
  have HC := Lib.hid hc0
  clear hc hd h hc0
  go_enter Try.func32, Try.ntmps32
  go_wp2_with fail
  refine (HC.out).mono ?_
  rintro e w' ⟨rfl, m, rfl⟩
  go_wp2_with fail
  go_ret
  exact ⟨rfl, ex_drew0⟩
/-- the reference's Great over definitions: where it says no there are few -/
def GreatPost (n : Nat) (w : World) (e : Ending) (w' : World) : Prop := ∃ b : Bool, e = .returned (.bool b) ∧ (b = false → n ≤ 20) ∧ Below w.heap.size w w'
theorem gp_yes {n : Nat} {w w' : World} (h : Below w.heap.size w w') : GreatPost n w (.returned (.bool true)) w' := ⟨true, rfl, fun h => (by cases h), h⟩
/-- it answers yes or no, and writes nothing below -/
def Ans (W0 : World) (e : Ending) (w' : World) : Prop := ∃ b : Bool, e = .returned (.bool b) ∧ Below W0.heap.size W0 w'
theorem Det.ans {W0 W w' : World} {b : Bool} {e : Ending} (hb : Below W0.heap.size W0 W) (h : Det b W e w') : Ans W0 e w' := by
  obtain ⟨h1, n, rfl⟩ := h
  exact ⟨b, h1, bDr hb n⟩
/-- a definition's box, seen from a later world -/
structure XB (W : World) (g : Nat) (v1 v2 v3 v4 v5 : Value) : Prop where
  c1 : W.cell? ⟨g, 1, none⟩ = some v1
  c2 : W.cell? ⟨g, 2, none⟩ = some v2
  c3 : W.cell? ⟨g, 3, none⟩ = some v3
  c4 : W.cell? ⟨g, 4, none⟩ = some v4
  c5 : W.cell? ⟨g, 5, none⟩ = some v5
theorem XB.keep {W W' : World} {g : Nat} {v1 v2 v3 v4 v5 : Value} (h : XB W g v1 v2 v3 v4 v5) (hb : Below W.heap.size W W') (hg : g < W.heap.size) : XB W' g v1 v2 v3 v4 v5 :=
  ⟨(hb.cell (p := ⟨g, 1, none⟩) hg).trans h.c1, (hb.cell (p := ⟨g, 2, none⟩) hg).trans h.c2, (hb.cell (p := ⟨g, 3, none⟩) hg).trans h.c3, (hb.cell (p := ⟨g, 4, none⟩) hg).trans h.c4, (hb.cell (p := ⟨g, 5, none⟩) hg).trans h.c5⟩
set_option maxHeartbeats 8000000 in
set_option maxRecDepth 100000 in
theorem great_any (A : Option Addr) (n c : Nat) (w : World) {B : Nat} (h : Sl B 6 (DefE w B) (.slice A n c)) (hB : B ≤ w.heap.size) : Calls Try.prog 17 #[.slice A n c] w (GreatPost n w) := by
  obtain ⟨A', n', c', e, hn, h⟩ := h
  cases e
  unfold maxLen at hn
  have HH := Lib.hid h
  clear h
  go_enter Try.func17, Try.ntmps17
  go_wp2_with fail
  go_loopw [3] (fun i wr => ∃ k : Nat, k ≤ n ∧ i = .int .i64 k ∧ Below w.heap.size w wr) (fun i _ => n - (RowKit.intOf i).toNat)
  case atStart => exact ⟨0, Nat.zero_le _, rfl, Below.refl _ _⟩
  case round =>
    obtain ⟨k, hk, rfl, hbr⟩ := hrel
    obtain ⟨wo, rfl⟩ : ∃ wo : World, wo = wr := ⟨_, rfl⟩
    by_cases hlt : k < n
    · obtain ⟨b, off, rfl, hb, hc⟩ : ∃ b off, A = some ⟨b, off, none⟩ ∧ b < B ∧ DefE w B b (off + k * 6) := by
        rcases HH.out with h | ⟨b, off, e, hb, h⟩
        · omega
        · exact ⟨b, off, e, hb, h k hlt⟩
      have hcr := DefE.keep (Kp.of_below hbr hB) (Nat.le_refl _) hb hc
      obtain ⟨kd, nm, gv, sv, iv, fv, h0, h1, h2, h3, h4, h5, g2, g3, g4, g5⟩ := hcr
      obtain ⟨A2, n2, c2, rfl, hn2⟩ := g2.len
      obtain ⟨A3, n3, c3, rfl, hn3⟩ := g3.len
      obtain ⟨A4, n4, c4, rfl, hn4⟩ := g4.len
      obtain ⟨A5, n5, c5, rfl, hn5⟩ := g5.len
      have HB := Lib.hid hbr
      have hsz := hbr.size
      by_cases hlm : k < 30
      · obtain ⟨W0, hW0⟩ : ∃ W0, wo.alloc (.cells #[.int .u8 kd.toNat, .string nm, .slice A2 n2 c2, .slice A3 n3 c3, .slice A4 n4 c4, .slice A5 n5 c5] 46) = W0 := ⟨_, rfl⟩
        have hbW : Below wo.heap.size wo W0 := by rw [← hW0]; exact bAl _ _
        have hkp : ∀ W, Below W0.heap.size W0 W → Kp wo W B := fun W h => Kp.of_below (bt hbW hbW.size h) (Nat.le_trans hB hsz)
        have hd1 : ∀ W, Below W0.heap.size W0 W → Calls Try.prog 31 #[.slice A2 n2 c2] W (Ans W0) := fun W h => (greatDirs _ W (g2.imp (Nat.le_refl _) fun _ _ hb x => DirE.keep (hkp W h) (Nat.le_refl _) hb x)).mono fun _ _ q => Det.ans h q
        have hd2 : ∀ W, Below W0.heap.size W0 W → Calls Try.prog 32 #[.slice A4 n4 c4] W (Ans W0) := fun W h => (greatInputs_any _ W (g4.imp (Nat.le_refl _) fun _ _ hb x => InpE.keep (hkp W h) (Nat.le_refl _) hb x)).mono fun _ _ q => Det.ans h q
        have x0 : W0.cell? ⟨wo.heap.size, 1, none⟩ = some (.string nm) := by rw [← hW0, World.cell?_alloc_at _ _ _ _ rfl]; rfl
        have x2 : W0.cell? ⟨wo.heap.size, 2, none⟩ = some (.slice A2 n2 c2) := by rw [← hW0, World.cell?_alloc_at _ _ _ _ rfl]; rfl
        have x3 : W0.cell? ⟨wo.heap.size, 3, none⟩ = some (.slice A3 n3 c3) := by rw [← hW0, World.cell?_alloc_at _ _ _ _ rfl]; rfl
        have x4 : W0.cell? ⟨wo.heap.size, 4, none⟩ = some (.slice A4 n4 c4) := by rw [← hW0, World.cell?_alloc_at _ _ _ _ rfl]; rfl
        have x5 : W0.cell? ⟨wo.heap.size, 5, none⟩ = some (.slice A5 n5 c5) := by rw [← hW0, World.cell?_alloc_at _ _ _ _ rfl]; rfl
        have hz : wo.heap.size < W0.heap.size := by rw [← hW0]; simp
        have D1 := Lib.hid hd1
        have D2 := Lib.hid hd2
        have KP := Lib.hid hkp
        have BW := Lib.hid hbW
        have G3 := Lib.hid g3
        have G5 := Lib.hid g5
        clear HH g2 g3 g4 g5 hd1 hd2 hkp hbW hbr hc
        go_wp2_with fail
        clear hW0
        have hX : XB W0 wo.heap.size (.string nm) (.slice A2 n2 c2) (.slice A3 n3 c3) (.slice A4 n4 c4) (.slice A5 n5 c5) := ⟨x0, x2, x3, x4, x5⟩
        have HX := Lib.hid hX
        clear hX x0 x2 x3 x4 x5 h0 h1 h2 h3 h4 h5
        refine (D1.out _ (Below.refl _ _)).mono ?_
        rintro e W1 ⟨G1, rfl, hb1⟩
        obtain ⟨x1, x2, x3, x4, x5⟩ := HX.out.keep hb1 hz
        have B1 := Lib.hid hb1
        have hz1 : wo.heap.size < W1.heap.size := Nat.lt_of_lt_of_le hz hb1.size
        clear hb1
        have hyes : ∀ W, Below W0.heap.size W0 W → Below w.heap.size w W := fun W h => bt HB.out hsz (bt BW.out BW.out.size h)
        have HY := Lib.hid hyes
        clear hyes
        cases G1
        case true =>
          go_wp2_with fail
          go_ret
          exact gp_yes (HY.out _ B1.out)
        case false =>
          go_wp2_with fail
          refine (D2.out _ B1.out).mono ?_
          rintro e W2 ⟨G2, rfl, hb2⟩
          clear x1 x2 x3 x4 x5 hz1
          obtain ⟨x1, x2, x3, x4, x5⟩ := HX.out.keep hb2 hz
          have B2 := Lib.hid hb2
          have hz2 : wo.heap.size < W2.heap.size := Nat.lt_of_lt_of_le hz hb2.size
          clear hb2 B1
          cases G2
          case true =>
            go_wp2_with fail
            go_ret
            exact gp_yes (HY.out _ B2.out)
          case false =>
            go_wp2_with fail
            all_goals first
              | (go_ret; exact gp_yes (HY.out _ B2.out))
              | skip
            clear x1 x2 x3 x4 x5 hz2 D1 D2
            go_loopw [5] (fun j W => ∃ q : Nat, q ≤ n5 ∧ j = .int .i64 q ∧ Below W0.heap.size W0 W) (fun j _ => n5 - (RowKit.intOf j).toNat)
            case atStart => exact ⟨0, Nat.zero_le _, rfl, B2.out⟩
            case round =>
              obtain ⟨q, hq, rfl, hbw⟩ := hrel
              obtain ⟨WL, rfl⟩ : ∃ W : World, W = wr := ⟨_, rfl⟩
              obtain ⟨x1, x2, x3, x4, x5⟩ := HX.out.keep hbw hz
              have hzl : wo.heap.size < WL.heap.size := Nat.lt_of_lt_of_le hz hbw.size
              by_cases hql : q < n5
              · obtain ⟨b9, off9, rfl, hb9, hc9⟩ : ∃ b off, A5 = some ⟨b, off, none⟩ ∧ b < B ∧ FldE wo B b (off + q * 5) := by
                  obtain ⟨A', n', c', e', _, h'⟩ := G5.out
                  cases e'
                  rcases h' with h' | ⟨b, off, e, hb, h'⟩
                  · omega
                  · exact ⟨b, off, e, hb, h' q hql⟩
                obtain ⟨fn, tn, WA, wn, wc, av, dv, f0, f1, f2, f3, f4, f5, f6⟩ := FldE.keep (KP.out WL hbw) (Nat.le_refl _) hb9 hc9
                obtain ⟨A6, n6, c6, rfl, hn6⟩ := f5.len
                obtain ⟨A7, n7, c7, rfl, hn7⟩ := f6.len
                have hbB : B ≤ WL.heap.size := by have := hbw.size; omega
                obtain ⟨WF, hWF⟩ : ∃ W, WL.alloc (.cells #[.string fn, .slice A6 n6 c6, .string tn, .slice WA wn wc, .slice A7 n7 c7] 81) = W := ⟨_, rfl⟩
                have hbF : Below WL.heap.size WL WF := by rw [← hWF]; exact bAl _ _
                have y0 : WF.cell? ⟨WL.heap.size, 0, none⟩ = some (.string fn) := by rw [← hWF, World.cell?_alloc_at _ _ _ _ rfl]; rfl
                have y1 : WF.cell? ⟨WL.heap.size, 1, none⟩ = some (.slice A6 n6 c6) := by rw [← hWF, World.cell?_alloc_at _ _ _ _ rfl]; rfl
                have y2 : WF.cell? ⟨WL.heap.size, 2, none⟩ = some (.string tn) := by rw [← hWF, World.cell?_alloc_at _ _ _ _ rfl]; rfl
                have y3 : WF.cell? ⟨WL.heap.size, 3, none⟩ = some (.slice WA wn wc) := by rw [← hWF, World.cell?_alloc_at _ _ _ _ rfl]; rfl
                have y4 : WF.cell? ⟨WL.heap.size, 4, none⟩ = some (.slice A7 n7 c7) := by rw [← hWF, World.cell?_alloc_at _ _ _ _ rfl]; rfl
                have hzF : WL.heap.size < WF.heap.size := by rw [← hWF]; simp
                have hkp : ∀ W, Below WF.heap.size WF W → Kp WL W B := fun W h => Kp.of_below (bt hbF hbF.size h) hbB
                have hd1 : ∀ W, Below WF.heap.size WF W → Calls Try.prog 31 #[.slice A7 n7 c7] W (Ans WF) := fun W h => (greatDirs _ W (f6.imp (Nat.le_refl _) fun _ _ hb x => DirE.keep (hkp W h) (Nat.le_refl _) hb x)).mono fun _ _ q => Det.ans h q
                have hd2 : ∀ W, Below WF.heap.size WF W → Calls Try.prog 32 #[.slice A6 n6 c6] W (Ans WF) := fun W h => (greatInputs_any _ W (f5.imp (Nat.le_refl _) fun _ _ hb x => InpE.keep (hkp W h) (Nat.le_refl _) hb x)).mono fun _ _ q => Det.ans h q
                have hzz : ∀ W, Below WF.heap.size WF W → Below W0.heap.size W0 W := fun W h => bt hbw hbw.size (bt hbF hbF.size h)
                have hY : XB WF WL.heap.size (.slice A6 n6 c6) (.string tn) (.slice WA wn wc) (.slice A7 n7 c7) (.slice A7 n7 c7) ∨ True := .inr trivial
                have D1 := Lib.hid hd1
                have D2 := Lib.hid hd2
                have ZZ := Lib.hid hzz
                have i0 : (0 : Int) ≤ (q : Int) := by omega
                have i1 : (q : Int) < (n5 : Int) := by omega
                clear f5 f6 hd1 hd2 hzz hkp hc9 hY hbF hbw
                go_wp2_with fail
                clear hWF
                refine (D1.out _ (Below.refl _ _)).mono ?_
                rintro e W3 ⟨G3', rfl, hb3⟩
                have hq3 : ∀ o, W3.cell? ⟨WL.heap.size, o, none⟩ = WF.cell? ⟨WL.heap.size, o, none⟩ := fun o => hb3.cell (p := ⟨WL.heap.size, o, none⟩) hzF
                have Y0 := Lib.hid y0
                have Y1 := Lib.hid y1
                have Y2 := Lib.hid y2
                have Y3 := Lib.hid y3
                have Y4 := Lib.hid y4
                clear y0 y1 y2 y3 y4 x1 x2 x3 x4 x5
                have y0 := (hq3 0).trans Y0.out
                have y1 := (hq3 1).trans Y1.out
                have y2 := (hq3 2).trans Y2.out
                have y3 := (hq3 3).trans Y3.out
                have B3 := Lib.hid hb3
                clear hq3 hb3
                obtain ⟨Z, hZ⟩ : ∃ Z, IntKind.i64.wrap ((fn.size : Int) + (tn.size : Int)) = Z := ⟨_, rfl⟩
                cases G3'
                case true =>
                  go_wp2_with fail
                  go_ret
                  exact gp_yes (HY.out _ (ZZ.out _ B3.out))
                case false =>
                  go_wp2_with fail
                  refine (D2.out _ B3.out).mono ?_
                  rintro e W4 ⟨G4', rfl, hb4⟩
                  have hq4 : ∀ o, W4.cell? ⟨WL.heap.size, o, none⟩ = WF.cell? ⟨WL.heap.size, o, none⟩ := fun o => hb4.cell (p := ⟨WL.heap.size, o, none⟩) hzF
                  clear y0 y1 y2 y3
                  have y0 := (hq4 0).trans Y0.out
                  have y2 := (hq4 2).trans Y2.out
                  have y3 := (hq4 3).trans Y3.out
                  have B4 := Lib.hid hb4
                  clear hq4 hb4 B3
                  cases G4'
                  case true =>
                    go_wp2_with fail
                    go_ret
                    exact gp_yes (HY.out _ (ZZ.out _ B4.out))
                  case false =>
                    go_wp2_with fail
                    all_goals first
                      | (go_ret; exact gp_yes (HY.out _ (ZZ.out _ B4.out)))
                      | (go_roundw <;> first | exact ⟨q + 1, by omega, by go_num, ZZ.out _ B4.out⟩ | (simp [RowKit.intOf]; omega))
              · have BL := Lib.hid hbw
                clear hbw
                go_wp2_with fail
                clear x1 x2 x3 x4 x5
                go_loopw [7] (fun j W => ∃ q : Nat, q ≤ n3 ∧ j = .int .i64 q ∧ Below W0.heap.size W0 W) (fun j _ => n3 - (RowKit.intOf j).toNat)
                case atStart => exact ⟨0, Nat.zero_le _, rfl, BL.out⟩
                case round =>
                  obtain ⟨q2, hq2, rfl, hbw⟩ := hrel
                  obtain ⟨WM, rfl⟩ : ∃ W : World, W = wr := ⟨_, rfl⟩
                  obtain ⟨x1, x2, x3, x4, x5⟩ := HX.out.keep hbw hz
                  have B9 := Lib.hid hbw
                  by_cases hql2 : q2 < n3
                  · obtain ⟨b9, off9, rfl, hb9, hc9⟩ : ∃ b off, A3 = some ⟨b, off, none⟩ ∧ b < B ∧ StrE wo b (off + q2 * 1) := by
                      obtain ⟨A', n', c', e', _, h'⟩ := G3.out
                      cases e'
                      rcases h' with h' | ⟨b, off, e, hb, h'⟩
                      · omega
                      · exact ⟨b, off, e, hb, h' q2 hql2⟩
                    obtain ⟨sn, f0⟩ := StrE.keep (KP.out WM hbw) hb9 hc9
                    rw [Nat.mul_one] at f0
                    have i0 : (0 : Int) ≤ (q2 : Int) := by omega
                    have i1 : (q2 : Int) < (n3 : Int) := by omega
                    clear hc9 hbw
                    go_wp2_with fail
                    all_goals first
                      | (go_ret; exact gp_yes (HY.out _ B9.out))
                      | (go_roundw <;> first | exact ⟨q2 + 1, by omega, by go_num, B9.out⟩ | (simp [RowKit.intOf]; omega))
                  · clear hbw
                    go_wp2_with fail
                    go_roundw <;> first | exact ⟨k + 1, by omega, by go_num, HY.out _ B9.out⟩ | (simp [RowKit.intOf]; omega)
      · have h20 : (20 : Int) < n := by omega
        clear HH g2 g3 g4 g5 hc hbr
        go_wp2_with fail
        go_ret
        exact gp_yes HB.out
    · have HB := Lib.hid hbr
      clear hbr
      by_cases h20 : 20 < n
      · have h20' : decide ((20 : Int) < (n : Int)) = true := by simp; omega
        go_wp2_with fail
        go_ret
        exact gp_yes HB.out
      · have h20' : decide ((20 : Int) < (n : Int)) = false := by simp; omega
        go_wp2_with fail
        go_ret
        exact ⟨false, rfl, fun _ => by omega, HB.out⟩
end Go.Proofs.Ytgoecnhkmfnenaa
