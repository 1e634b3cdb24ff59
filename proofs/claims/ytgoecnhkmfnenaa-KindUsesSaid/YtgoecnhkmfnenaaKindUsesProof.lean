/- KindUses: for any variable, type and 'has': a variable of a type may stand where that type fits, and a default there, or of the variable, is as good: the call returns true, and what came in reads as before. Conditions: none. -/
import Derived.Test.YtgoecnhkmfnenaaRows
import Derived.Test.YtgoecnhkmfnenaaUsable
import Derived.Test.YtgoecnhkmfnenaaKOpen
import Derived.ProofKit
namespace Go.Proofs.Ytgoecnhkmfnenaa.kindUses
open Go.RowKit

theorem fits_plain (tn nb : ByteArray) (fa tb : List UInt8) (vh nul has : Bool) (h : fits tn nb fa tb = true) : usable tn nb fa tb vh nul has = true := by
  unfold usable
  split
  · rename_i hc
    obtain ⟨h1, h2⟩ := hc
    rcases fa with _ | ⟨a, r⟩
    · rcases tb with _ | ⟨b, t⟩
      · simp at h1
      · simp [fits] at h
    · have : a ≠ 1 := fun e => h2 (by simp [e])
      simp [fits, h1, this] at h
  · exact h
theorem plain_has (tn nb : ByteArray) (fa tb : List UInt8) (vh nul has : Bool) (h : usable tn nb fa tb vh nul false = true) : usable tn nb fa tb vh nul has = true := by
  unfold usable at h ⊢
  split
  · rename_i hc
    rw [if_pos hc] at h
    simp only [Bool.and_eq_true, Bool.false_or] at h
    rw [h.2, h.1.1, h.1.2]
    cases has <;> rfl
  · rename_i hc
    rw [if_neg hc] at h
    exact h
theorem told_has (tn nb : ByteArray) (fa tb : List UInt8) (vh nul : Bool) : usable tn nb fa tb true false false = usable tn nb fa tb vh nul true := by
  unfold usable
  split <;> simp

theorem S14.keep {w1 w2 : World} {B b d : Nat} {a0 a1 a2 a3 a4 a5 b0 b1 c0 c1 c2 c3 c4 c5 : Value} (hb : Below B w1 w2) (h : w1.cell? ⟨b, 0, none⟩ = some a0 ∧ w1.cell? ⟨b, 1, none⟩ = some a1 ∧ w1.cell? ⟨b, 2, none⟩ = some a2 ∧ w1.cell? ⟨b, 3, none⟩ = some a3 ∧ w1.cell? ⟨b, 4, none⟩ = some a4 ∧ w1.cell? ⟨b, 5, none⟩ = some a5 ∧ w1.cell? ⟨b + 1, 0, none⟩ = some b0 ∧ w1.cell? ⟨b + 1, 1, none⟩ = some b1 ∧ w1.cell? ⟨d, 0, none⟩ = some c0 ∧ w1.cell? ⟨d, 1, none⟩ = some c1 ∧ w1.cell? ⟨d, 2, none⟩ = some c2 ∧ w1.cell? ⟨d, 3, none⟩ = some c3 ∧ w1.cell? ⟨d, 4, none⟩ = some c4 ∧ w1.cell? ⟨d, 5, none⟩ = some c5) (h1 : b + 1 < B) (h2 : d < B) :
    w2.cell? ⟨b, 0, none⟩ = some a0 ∧ w2.cell? ⟨b, 1, none⟩ = some a1 ∧ w2.cell? ⟨b, 2, none⟩ = some a2 ∧ w2.cell? ⟨b, 3, none⟩ = some a3 ∧ w2.cell? ⟨b, 4, none⟩ = some a4 ∧ w2.cell? ⟨b, 5, none⟩ = some a5 ∧ w2.cell? ⟨b + 1, 0, none⟩ = some b0 ∧ w2.cell? ⟨b + 1, 1, none⟩ = some b1 ∧ w2.cell? ⟨d, 0, none⟩ = some c0 ∧ w2.cell? ⟨d, 1, none⟩ = some c1 ∧ w2.cell? ⟨d, 2, none⟩ = some c2 ∧ w2.cell? ⟨d, 3, none⟩ = some c3 ∧ w2.cell? ⟨d, 4, none⟩ = some c4 ∧ w2.cell? ⟨d, 5, none⟩ = some c5 := by
  have h0 : b < B := Nat.lt_of_succ_lt h1
  obtain ⟨e0, e1, e2, e3, e4, e5, e6, e7, e8, e9, e10, e11, e12, e13⟩ := h
  exact ⟨(hb.cell (p := ⟨b, 0, none⟩) h0).trans e0, (hb.cell (p := ⟨b, 1, none⟩) h0).trans e1, (hb.cell (p := ⟨b, 2, none⟩) h0).trans e2, (hb.cell (p := ⟨b, 3, none⟩) h0).trans e3, (hb.cell (p := ⟨b, 4, none⟩) h0).trans e4, (hb.cell (p := ⟨b, 5, none⟩) h0).trans e5, (hb.cell (p := ⟨b + 1, 0, none⟩) h1).trans e6, (hb.cell (p := ⟨b + 1, 1, none⟩) h1).trans e7, (hb.cell (p := ⟨d, 0, none⟩) h2).trans e8, (hb.cell (p := ⟨d, 1, none⟩) h2).trans e9, (hb.cell (p := ⟨d, 2, none⟩) h2).trans e10, (hb.cell (p := ⟨d, 3, none⟩) h2).trans e11, (hb.cell (p := ⟨d, 4, none⟩) h2).trans e12, (hb.cell (p := ⟨d, 5, none⟩) h2).trans e13⟩
theorem usableX (vn tn nb : ByteArray) (A D A2 : Option Addr) (c dl dc c2 : Nat) (G : Value) (fa tb : List UInt8) (vh nul has : Bool) (w : World) {B : Nat} (hx : Rd w B A (bv fa)) (hy : Rd w B A2 (bv tb)) (hd : Dflt w B D dl nul) (hB : B ≤ w.heap.size)
    (hc : fa.length ≤ c) (hm : c ≤ maxLen) (hc2 : tb.length ≤ c2) (hm2 : c2 ≤ maxLen) (hnt : tb.length ≤ 140737488351232) :
    Calls Try.prog 13 #[.agg #[.string vn, .string tn, .slice A fa.length c, .bool vh, .slice D dl dc, G], .agg #[.string nb, .slice A2 tb.length c2], .bool has] w fun e w' => e = .returned (.bool (usable tn nb fa tb vh nul has)) ∧ Below w.heap.size w w' :=
  usable_any vn tn nb A D A2 c dl dc c2 G fa tb vh nul has w hx hy hd hB hc hm hc2 hm2 hnt

set_option maxHeartbeats 8000000 in
set_option maxRecDepth 100000 in
theorem walk_small (vn tn nb : ByteArray) (A D A2 : Option Addr) (c dl dc c2 : Nat) (GA : Option Addr) (gl gc : Nat) (fa tb : List UInt8) (vh nul has : Bool) (w : World) {B : Nat} (hx : Rd w B A (bv fa)) (hy : Rd w B A2 (bv tb)) (hd : Dflt w B D dl nul) (hB : B ≤ w.heap.size)
    (hc : fa.length ≤ c) (hm : c ≤ maxLen) (hc2 : tb.length ≤ c2) (hm2 : c2 ≤ maxLen) (n1 : fa.length ≤ 20) (n2 : tb.length ≤ 20) (n3 : dl ≤ 100) :
    Calls Try.prog 4 #[inp vn tn A fa.length c vh D dl dc (.slice GA gl gc), rf nb A2 tb.length c2, .bool has] w fun e w' => e = .returned (.bool true) ∧ Below w.heap.size w w' := by
  have hb0 : Below w.heap.size w ((w.alloc (.cells #[.string vn, .string tn, .slice A fa.length c, .bool vh, .slice D dl dc, .slice GA gl gc] 33)).alloc (.cells #[.string nb, .slice A2 tb.length c2] 24)) := ((Below.refl _ _).alloc (Nat.le_refl _) _).alloc (by simp) _
  have hx0 := hx.thru hb0 hB
  have hy0 := hy.thru hb0 hB
  have hd0 := hd.keep hb0 hB
  have hB0 := Nat.le_trans hB hb0.size
  have hT0 := Two.new w (.string vn) (.string tn) (.slice A fa.length c) (.bool vh) (.slice D dl dc) (.slice GA gl gc) (.string nb) (.slice A2 tb.length c2) 33 24
  have hz0 : w.heap.size + 1 < ((w.alloc (.cells #[.string vn, .string tn, .slice A fa.length c, .bool vh, .slice D dl dc, .slice GA gl gc] 33)).alloc (.cells #[.string nb, .slice A2 tb.length c2] 24)).heap.size := by simp
  have hnt : tb.length ≤ 140737488351232 := by omega
  obtain ⟨F, hF⟩ : ∃ F, fits tn nb fa tb = F := ⟨_, rfl⟩
  obtain ⟨P, hP⟩ : ∃ P, usable tn nb fa tb vh nul false = P := ⟨_, rfl⟩
  have hFP : F = true → P = true := by intro h; rw [← hP]; exact fits_plain _ _ _ _ _ _ _ (by rw [hF]; exact h)
  have hPH : P = true → usable tn nb fa tb vh nul has = true := by intro h; exact plain_has _ _ _ _ _ _ _ (by rw [hP]; exact h)
  have HF := Lib.hid hF
  have HP := Lib.hid hP
  have HFP := Lib.hid hFP
  have HPH := Lib.hid hPH
  clear hF hP hFP hPH
  unfold inp rf
  go_enter Try.func4, Try.ntmps4
  go_wp2_with fail
  refine (alive_any _).mono ?_
  rintro e w1 ⟨rfl, hb1⟩
  have hT1 := Two.keep hb1 hT0 hz0
  have hx1 := Rd.via hb1 hx0 hB0
  have hy1 := Rd.via hb1 hy0 hB0
  have hd1 := hd0.keep hb1 hB0
  have hB1 := Nat.le_trans hB0 hb1.size
  have hz1 : w.heap.size + 1 < w1.heap.size := Nat.lt_of_lt_of_le hz0 hb1.size
  have hz1' : w.heap.size < w1.heap.size := by omega
  have hw1 : Below w.heap.size w w1 := hb0.trans (hb1.mono hb0.size)
  clear hb1 hb0 hT0 hx0 hy0 hB0 hz0 hd0
  have HT1 := Lib.hid hT1
  obtain ⟨p0, p1, p2, p3, p4, p5, q0, q1⟩ := hT1
  go_wp2_with fail
  refine (usable_any vn tn nb A D A2 c dl dc c2 (.slice GA gl gc) fa tb vh nul false w1 hx1 hy1 hd1 hB1 hc hm hc2 hm2 hnt).mono ?_
  rintro e w2 ⟨rfl, hb2⟩
  have hT2 := Two.keep hb2 HT1.out hz1
  have hx2 := Rd.via hb2 hx1 hB1
  have hy2 := Rd.via hb2 hy1 hB1
  have hd2 := Dflt.keep hd1 hb2 hB1
  have hB2 := Nat.le_trans hB1 hb2.size
  have hz2 : w.heap.size + 1 < w2.heap.size := Nat.lt_of_lt_of_le hz1 hb2.size
  have hz2' : w.heap.size < w2.heap.size := by omega
  have hw2 : Below w.heap.size w w2 := hw1.trans (hb2.mono (by omega))
  clear hb2 hx1 hy1 hd1 hB1 hz1 hz1' hw1 HT1 p0 p1 p2 p3 p4 p5 q0 q1
  have HT2 := Lib.hid hT2
  obtain ⟨p0, p1, p2, p3, p4, p5, q0, q1⟩ := hT2
  rw [HP.out]
  go_wp2_with fail
  refine (fits_any tn nb fa tb A A2 c c2 w2 B hx2 hy2 hB2 hc hm hc2 hm2).mono ?_
  rintro e w3 ⟨rfl, hb3⟩
  have hT3 := Two.keep hb3 HT2.out hz2
  have hx3 := Rd.via hb3 hx2 hB2
  have hy3 := Rd.via hb3 hy2 hB2
  have hd3 := Dflt.keep hd2 hb3 hB2
  have hB3 := Nat.le_trans hB2 hb3.size
  have hz3 : w.heap.size + 1 < w3.heap.size := Nat.lt_of_lt_of_le hz2 hb3.size
  have hz3' : w.heap.size < w3.heap.size := by omega
  have hw3 : Below w.heap.size w w3 := hw2.trans (hb3.mono (by omega))
  clear hb3 hx2 hy2 hd2 hB2 hz2 hz2' hw2 HT2 p0 p1 p2 p3 p4 p5 q0 q1
  have HT3 := Lib.hid hT3
  obtain ⟨p0, p1, p2, p3, p4, p5, q0, q1⟩ := hT3
  rw [HF.out]
  cases P
  · have e1 : F = false := by
      cases F
      · rfl
      · exact absurd (HFP.out rfl) (by simp)
    subst e1
    clear HFP HPH
    go_wp2_with fail
    generalize hw4 : (w3.alloc (.cells #[.string vn, .string tn, .slice A fa.length c, .bool true, .slice (some ⟨w3.heap.size + 1, 0, none⟩) 1 1, .slice GA gl gc] 33)).alloc (.cells #[.int .u8 2, .string ⟨#[]⟩, .string ⟨#[]⟩, .int .i64 1, .int .i64 0] 36) = w4
    have hs4 : w4.heap.size = w3.heap.size + 2 := by subst hw4; simp
    have hb4 : Below w3.heap.size w3 w4 := by
      subst hw4
      exact ((Below.refl _ _).alloc (Nat.le_refl _) _).alloc (by simp) _
    have g0 : w4.cell? ⟨w3.heap.size, 0, none⟩ = some (.string vn) := by subst hw4; rw [World.cell?_alloc_past _ _ _ (by simp), World.cell?_alloc_at _ _ _ _ rfl]; rfl
    have g1 : w4.cell? ⟨w3.heap.size, 1, none⟩ = some (.string tn) := by subst hw4; rw [World.cell?_alloc_past _ _ _ (by simp), World.cell?_alloc_at _ _ _ _ rfl]; rfl
    have g2 : w4.cell? ⟨w3.heap.size, 2, none⟩ = some (.slice A fa.length c) := by subst hw4; rw [World.cell?_alloc_past _ _ _ (by simp), World.cell?_alloc_at _ _ _ _ rfl]; rfl
    have g3 : w4.cell? ⟨w3.heap.size, 3, none⟩ = some (.bool true) := by subst hw4; rw [World.cell?_alloc_past _ _ _ (by simp), World.cell?_alloc_at _ _ _ _ rfl]; rfl
    have g4 : w4.cell? ⟨w3.heap.size, 4, none⟩ = some (.slice (some ⟨w3.heap.size + 1, 0, none⟩) 1 1) := by subst hw4; rw [World.cell?_alloc_past _ _ _ (by simp), World.cell?_alloc_at _ _ _ _ rfl]; rfl
    have g5 : w4.cell? ⟨w3.heap.size, 5, none⟩ = some (.slice GA gl gc) := by subst hw4; rw [World.cell?_alloc_past _ _ _ (by simp), World.cell?_alloc_at _ _ _ _ rfl]; rfl
    have f0 : w4.cell? ⟨w3.heap.size + 1, 0, none⟩ = some (.int .u8 2) := by subst hw4; rw [World.cell?_alloc_at _ _ _ _ (by simp)]; rfl
    have hT4 := Two.keep hb4 HT3.out hz3
    have hx4 := Rd.via hb4 hx3 hB3
    have hy4 := Rd.via hb4 hy3 hB3
    have hd4 := Dflt.keep hd3 hb4 hB3
    have hB4 := Nat.le_trans hB3 hb4.size
    have hz4 : w.heap.size + 1 < w4.heap.size := Nat.lt_of_lt_of_le hz3 hb4.size
    have hz4' : w.heap.size < w4.heap.size := by omega
    have hw5 : Below w.heap.size w w4 := hw3.trans (hb4.mono (by omega))
    have hS4 := And.intro hT4.c0 (And.intro hT4.c1 (And.intro hT4.c2 (And.intro hT4.c3 (And.intro hT4.c4 (And.intro hT4.c5 (And.intro hT4.d0 (And.intro hT4.d1 (And.intro g0 (And.intro g1 (And.intro g2 (And.intro g3 (And.intro g4 g5))))))))))))
    have hxd : Rd w4 w4.heap.size A (bv fa) := hx4.mono hB4
    have hyd : Rd w4 w4.heap.size A2 (bv tb) := hy4.mono hB4
    have hdd : Dflt w4 w4.heap.size (some ⟨w3.heap.size + 1, 0, none⟩) 1 false := .inr ⟨Nat.one_pos, _, _, 2, rfl, by omega, f0, rfl⟩
    have hd9 : w3.heap.size < w4.heap.size := by omega
    clear hw4 hd3 hB3 hx3 hy3 HT3 hw3 hz3 hz3' p0 p1 p2 p3 p4 p5 q0 q1 hT4 g0 g1 g2 g3 g4 g5 f0
    go_region_held3 (fun w' => w'.cell? ⟨w.heap.size, 0, none⟩ = some (.string vn) ∧ w'.cell? ⟨w.heap.size, 1, none⟩ = some (.string tn) ∧ w'.cell? ⟨w.heap.size, 2, none⟩ = some (.slice A fa.length c) ∧ w'.cell? ⟨w.heap.size, 3, none⟩ = some (.bool vh) ∧ w'.cell? ⟨w.heap.size, 4, none⟩ = some (.slice D dl dc) ∧ w'.cell? ⟨w.heap.size, 5, none⟩ = some (.slice GA gl gc) ∧ w'.cell? ⟨w.heap.size + 1, 0, none⟩ = some (.string nb) ∧ w'.cell? ⟨w.heap.size + 1, 1, none⟩ = some (.slice A2 tb.length c2) ∧ w'.cell? ⟨w3.heap.size, 0, none⟩ = some (.string vn) ∧ w'.cell? ⟨w3.heap.size, 1, none⟩ = some (.string tn) ∧ w'.cell? ⟨w3.heap.size, 2, none⟩ = some (.slice A fa.length c) ∧ w'.cell? ⟨w3.heap.size, 3, none⟩ = some (.bool true) ∧ w'.cell? ⟨w3.heap.size, 4, none⟩ = some (.slice (some ⟨w3.heap.size + 1, 0, none⟩) 1 1) ∧ w'.cell? ⟨w3.heap.size, 5, none⟩ = some (.slice GA gl gc)) (first | exact hS4 | exact hS5 | exact hS6)
      (first
        | (go_at_call 13; (with_reducible refine (usableX (B := w4.heap.size) vn tn nb A (some ⟨w3.heap.size + 1, 0, none⟩) A2 c 1 1 c2 (.slice GA gl gc) fa tb true false false _ ?_ ?_ ?_ ?_ hc hm hc2 hm2 hnt).mono ?_); exact hxd; exact hyd; exact hdd; exact Nat.le_refl _; rintro e w5 ⟨rfl, hb5⟩; replace hb5 : Below w4.heap.size w4 w5 := (Below.refl _ _).drew.trans hb5; have hS5 := S14.keep hb5 hS4 hz4 hd9)
        | (go_at_call 13; (with_reducible refine (usableX (B := B) vn tn nb A D A2 c dl dc c2 (.slice GA gl gc) fa tb vh nul true _ ?_ ?_ ?_ ?_ hc hm hc2 hm2 hnt).mono ?_); exact Rd.via hb5 hx4 hB4; exact Rd.via hb5 hy4 hB4; exact Dflt.keep hd4 hb5 hB4; exact Nat.le_trans hB4 hb5.size; rintro e w6 ⟨rfl, hb6⟩; have hS6 := S14.keep hb6 hS5 (Nat.lt_of_lt_of_le hz4 hb5.size) (Nat.lt_of_lt_of_le hd9 hb5.size)))
    go_wp2
    go_ret
    exact ⟨ret_bool (by rw [told_has tn nb fa tb vh nul]; simp), hw5.trans ((hb5.trans (hb6.mono hb5.size)).mono (by omega))⟩
  · cases F
    · go_wp2_with fail
      refine (usable_any vn tn nb A D A2 c dl dc c2 (.slice GA gl gc) fa tb vh nul has w3 hx3 hy3 hd3 hB3 hc hm hc2 hm2 hnt).mono ?_
      rintro e w3 ⟨rfl, hb3⟩
      have hT3 := Two.keep hb3 HT3.out hz3
      have hx3 := Rd.via hb3 hx3 hB3
      have hy3 := Rd.via hb3 hy3 hB3
      have hd3 := Dflt.keep hd3 hb3 hB3
      have hB3 := Nat.le_trans hB3 hb3.size
      have hz3 : w.heap.size + 1 < w3.heap.size := Nat.lt_of_lt_of_le hz3 hb3.size
      have hz3' : w.heap.size < w3.heap.size := by omega
      have hw3 : Below w.heap.size w w3 := hw3.trans (hb3.mono (by omega))
      clear hb3 p0 p1 p2 p3 p4 p5 q0 q1
      have HT3 := Lib.hid hT3
      obtain ⟨p0, p1, p2, p3, p4, p5, q0, q1⟩ := hT3
      rw [HPH.out trivial]
      go_wp2_with fail
      generalize hw4 : (w3.alloc (.cells #[.string vn, .string tn, .slice A fa.length c, .bool true, .slice (some ⟨w3.heap.size + 1, 0, none⟩) 1 1, .slice GA gl gc] 33)).alloc (.cells #[.int .u8 2, .string ⟨#[]⟩, .string ⟨#[]⟩, .int .i64 1, .int .i64 0] 36) = w4
      have hs4 : w4.heap.size = w3.heap.size + 2 := by subst hw4; simp
      have hb4 : Below w3.heap.size w3 w4 := by
        subst hw4
        exact ((Below.refl _ _).alloc (Nat.le_refl _) _).alloc (by simp) _
      have g0 : w4.cell? ⟨w3.heap.size, 0, none⟩ = some (.string vn) := by subst hw4; rw [World.cell?_alloc_past _ _ _ (by simp), World.cell?_alloc_at _ _ _ _ rfl]; rfl
      have g1 : w4.cell? ⟨w3.heap.size, 1, none⟩ = some (.string tn) := by subst hw4; rw [World.cell?_alloc_past _ _ _ (by simp), World.cell?_alloc_at _ _ _ _ rfl]; rfl
      have g2 : w4.cell? ⟨w3.heap.size, 2, none⟩ = some (.slice A fa.length c) := by subst hw4; rw [World.cell?_alloc_past _ _ _ (by simp), World.cell?_alloc_at _ _ _ _ rfl]; rfl
      have g3 : w4.cell? ⟨w3.heap.size, 3, none⟩ = some (.bool true) := by subst hw4; rw [World.cell?_alloc_past _ _ _ (by simp), World.cell?_alloc_at _ _ _ _ rfl]; rfl
      have g4 : w4.cell? ⟨w3.heap.size, 4, none⟩ = some (.slice (some ⟨w3.heap.size + 1, 0, none⟩) 1 1) := by subst hw4; rw [World.cell?_alloc_past _ _ _ (by simp), World.cell?_alloc_at _ _ _ _ rfl]; rfl
      have g5 : w4.cell? ⟨w3.heap.size, 5, none⟩ = some (.slice GA gl gc) := by subst hw4; rw [World.cell?_alloc_past _ _ _ (by simp), World.cell?_alloc_at _ _ _ _ rfl]; rfl
      have f0 : w4.cell? ⟨w3.heap.size + 1, 0, none⟩ = some (.int .u8 2) := by subst hw4; rw [World.cell?_alloc_at _ _ _ _ (by simp)]; rfl
      have hT4 := Two.keep hb4 HT3.out hz3
      have hx4 := Rd.via hb4 hx3 hB3
      have hy4 := Rd.via hb4 hy3 hB3
      have hd4 := Dflt.keep hd3 hb4 hB3
      have hB4 := Nat.le_trans hB3 hb4.size
      have hz4 : w.heap.size + 1 < w4.heap.size := Nat.lt_of_lt_of_le hz3 hb4.size
      have hz4' : w.heap.size < w4.heap.size := by omega
      have hw5 : Below w.heap.size w w4 := hw3.trans (hb4.mono (by omega))
      have hS4 := And.intro hT4.c0 (And.intro hT4.c1 (And.intro hT4.c2 (And.intro hT4.c3 (And.intro hT4.c4 (And.intro hT4.c5 (And.intro hT4.d0 (And.intro hT4.d1 (And.intro g0 (And.intro g1 (And.intro g2 (And.intro g3 (And.intro g4 g5))))))))))))
      have hxd : Rd w4 w4.heap.size A (bv fa) := hx4.mono hB4
      have hyd : Rd w4 w4.heap.size A2 (bv tb) := hy4.mono hB4
      have hdd : Dflt w4 w4.heap.size (some ⟨w3.heap.size + 1, 0, none⟩) 1 false := .inr ⟨Nat.one_pos, _, _, 2, rfl, by omega, f0, rfl⟩
      have hd9 : w3.heap.size < w4.heap.size := by omega
      clear hw4 hd3 hB3 hx3 hy3 HT3 hw3 hz3 hz3' p0 p1 p2 p3 p4 p5 q0 q1 hT4 g0 g1 g2 g3 g4 g5 f0
      go_region_held3 (fun w' => w'.cell? ⟨w.heap.size, 0, none⟩ = some (.string vn) ∧ w'.cell? ⟨w.heap.size, 1, none⟩ = some (.string tn) ∧ w'.cell? ⟨w.heap.size, 2, none⟩ = some (.slice A fa.length c) ∧ w'.cell? ⟨w.heap.size, 3, none⟩ = some (.bool vh) ∧ w'.cell? ⟨w.heap.size, 4, none⟩ = some (.slice D dl dc) ∧ w'.cell? ⟨w.heap.size, 5, none⟩ = some (.slice GA gl gc) ∧ w'.cell? ⟨w.heap.size + 1, 0, none⟩ = some (.string nb) ∧ w'.cell? ⟨w.heap.size + 1, 1, none⟩ = some (.slice A2 tb.length c2) ∧ w'.cell? ⟨w3.heap.size, 0, none⟩ = some (.string vn) ∧ w'.cell? ⟨w3.heap.size, 1, none⟩ = some (.string tn) ∧ w'.cell? ⟨w3.heap.size, 2, none⟩ = some (.slice A fa.length c) ∧ w'.cell? ⟨w3.heap.size, 3, none⟩ = some (.bool true) ∧ w'.cell? ⟨w3.heap.size, 4, none⟩ = some (.slice (some ⟨w3.heap.size + 1, 0, none⟩) 1 1) ∧ w'.cell? ⟨w3.heap.size, 5, none⟩ = some (.slice GA gl gc)) (first | exact hS4 | exact hS5 | exact hS6)
        (first
          | (go_at_call 13; (with_reducible refine (usableX (B := w4.heap.size) vn tn nb A (some ⟨w3.heap.size + 1, 0, none⟩) A2 c 1 1 c2 (.slice GA gl gc) fa tb true false false _ ?_ ?_ ?_ ?_ hc hm hc2 hm2 hnt).mono ?_); exact hxd; exact hyd; exact hdd; exact Nat.le_refl _; rintro e w5 ⟨rfl, hb5⟩; replace hb5 : Below w4.heap.size w4 w5 := (Below.refl _ _).drew.trans hb5; have hS5 := S14.keep hb5 hS4 hz4 hd9)
          | (go_at_call 13; (with_reducible refine (usableX (B := B) vn tn nb A D A2 c dl dc c2 (.slice GA gl gc) fa tb vh nul true _ ?_ ?_ ?_ ?_ hc hm hc2 hm2 hnt).mono ?_); exact Rd.via hb5 hx4 hB4; exact Rd.via hb5 hy4 hB4; exact Dflt.keep hd4 hb5 hB4; exact Nat.le_trans hB4 hb5.size; rintro e w6 ⟨rfl, hb6⟩; have hS6 := S14.keep hb6 hS5 (Nat.lt_of_lt_of_le hz4 hb5.size) (Nat.lt_of_lt_of_le hd9 hb5.size)))
      go_wp2
      go_ret
      exact ⟨ret_bool (by rw [told_has tn nb fa tb vh nul]; simp), hw5.trans ((hb5.trans (hb6.mono hb5.size)).mono (by omega))⟩
    · go_wp2_with fail
      refine (usable_any vn tn nb A D A2 c dl dc c2 (.slice GA gl gc) fa tb vh nul has w3 hx3 hy3 hd3 hB3 hc hm hc2 hm2 hnt).mono ?_
      rintro e w3 ⟨rfl, hb3⟩
      have hT3 := Two.keep hb3 HT3.out hz3
      have hx3 := Rd.via hb3 hx3 hB3
      have hy3 := Rd.via hb3 hy3 hB3
      have hd3 := Dflt.keep hd3 hb3 hB3
      have hB3 := Nat.le_trans hB3 hb3.size
      have hz3 : w.heap.size + 1 < w3.heap.size := Nat.lt_of_lt_of_le hz3 hb3.size
      have hz3' : w.heap.size < w3.heap.size := by omega
      have hw3 : Below w.heap.size w w3 := hw3.trans (hb3.mono (by omega))
      clear hb3 p0 p1 p2 p3 p4 p5 q0 q1
      have HT3 := Lib.hid hT3
      obtain ⟨p0, p1, p2, p3, p4, p5, q0, q1⟩ := hT3
      rw [HPH.out trivial]
      go_wp2_with fail
      generalize hw4 : (w3.alloc (.cells #[.string vn, .string tn, .slice A fa.length c, .bool true, .slice (some ⟨w3.heap.size + 1, 0, none⟩) 1 1, .slice GA gl gc] 33)).alloc (.cells #[.int .u8 2, .string ⟨#[]⟩, .string ⟨#[]⟩, .int .i64 1, .int .i64 0] 36) = w4
      have hs4 : w4.heap.size = w3.heap.size + 2 := by subst hw4; simp
      have hb4 : Below w3.heap.size w3 w4 := by
        subst hw4
        exact ((Below.refl _ _).alloc (Nat.le_refl _) _).alloc (by simp) _
      have g0 : w4.cell? ⟨w3.heap.size, 0, none⟩ = some (.string vn) := by subst hw4; rw [World.cell?_alloc_past _ _ _ (by simp), World.cell?_alloc_at _ _ _ _ rfl]; rfl
      have g1 : w4.cell? ⟨w3.heap.size, 1, none⟩ = some (.string tn) := by subst hw4; rw [World.cell?_alloc_past _ _ _ (by simp), World.cell?_alloc_at _ _ _ _ rfl]; rfl
      have g2 : w4.cell? ⟨w3.heap.size, 2, none⟩ = some (.slice A fa.length c) := by subst hw4; rw [World.cell?_alloc_past _ _ _ (by simp), World.cell?_alloc_at _ _ _ _ rfl]; rfl
      have g3 : w4.cell? ⟨w3.heap.size, 3, none⟩ = some (.bool true) := by subst hw4; rw [World.cell?_alloc_past _ _ _ (by simp), World.cell?_alloc_at _ _ _ _ rfl]; rfl
      have g4 : w4.cell? ⟨w3.heap.size, 4, none⟩ = some (.slice (some ⟨w3.heap.size + 1, 0, none⟩) 1 1) := by subst hw4; rw [World.cell?_alloc_past _ _ _ (by simp), World.cell?_alloc_at _ _ _ _ rfl]; rfl
      have g5 : w4.cell? ⟨w3.heap.size, 5, none⟩ = some (.slice GA gl gc) := by subst hw4; rw [World.cell?_alloc_past _ _ _ (by simp), World.cell?_alloc_at _ _ _ _ rfl]; rfl
      have f0 : w4.cell? ⟨w3.heap.size + 1, 0, none⟩ = some (.int .u8 2) := by subst hw4; rw [World.cell?_alloc_at _ _ _ _ (by simp)]; rfl
      have hT4 := Two.keep hb4 HT3.out hz3
      have hx4 := Rd.via hb4 hx3 hB3
      have hy4 := Rd.via hb4 hy3 hB3
      have hd4 := Dflt.keep hd3 hb4 hB3
      have hB4 := Nat.le_trans hB3 hb4.size
      have hz4 : w.heap.size + 1 < w4.heap.size := Nat.lt_of_lt_of_le hz3 hb4.size
      have hz4' : w.heap.size < w4.heap.size := by omega
      have hw5 : Below w.heap.size w w4 := hw3.trans (hb4.mono (by omega))
      have hS4 := And.intro hT4.c0 (And.intro hT4.c1 (And.intro hT4.c2 (And.intro hT4.c3 (And.intro hT4.c4 (And.intro hT4.c5 (And.intro hT4.d0 (And.intro hT4.d1 (And.intro g0 (And.intro g1 (And.intro g2 (And.intro g3 (And.intro g4 g5))))))))))))
      have hxd : Rd w4 w4.heap.size A (bv fa) := hx4.mono hB4
      have hyd : Rd w4 w4.heap.size A2 (bv tb) := hy4.mono hB4
      have hdd : Dflt w4 w4.heap.size (some ⟨w3.heap.size + 1, 0, none⟩) 1 false := .inr ⟨Nat.one_pos, _, _, 2, rfl, by omega, f0, rfl⟩
      have hd9 : w3.heap.size < w4.heap.size := by omega
      clear hw4 hd3 hB3 hx3 hy3 HT3 hw3 hz3 hz3' p0 p1 p2 p3 p4 p5 q0 q1 hT4 g0 g1 g2 g3 g4 g5 f0
      go_region_held3 (fun w' => w'.cell? ⟨w.heap.size, 0, none⟩ = some (.string vn) ∧ w'.cell? ⟨w.heap.size, 1, none⟩ = some (.string tn) ∧ w'.cell? ⟨w.heap.size, 2, none⟩ = some (.slice A fa.length c) ∧ w'.cell? ⟨w.heap.size, 3, none⟩ = some (.bool vh) ∧ w'.cell? ⟨w.heap.size, 4, none⟩ = some (.slice D dl dc) ∧ w'.cell? ⟨w.heap.size, 5, none⟩ = some (.slice GA gl gc) ∧ w'.cell? ⟨w.heap.size + 1, 0, none⟩ = some (.string nb) ∧ w'.cell? ⟨w.heap.size + 1, 1, none⟩ = some (.slice A2 tb.length c2) ∧ w'.cell? ⟨w3.heap.size, 0, none⟩ = some (.string vn) ∧ w'.cell? ⟨w3.heap.size, 1, none⟩ = some (.string tn) ∧ w'.cell? ⟨w3.heap.size, 2, none⟩ = some (.slice A fa.length c) ∧ w'.cell? ⟨w3.heap.size, 3, none⟩ = some (.bool true) ∧ w'.cell? ⟨w3.heap.size, 4, none⟩ = some (.slice (some ⟨w3.heap.size + 1, 0, none⟩) 1 1) ∧ w'.cell? ⟨w3.heap.size, 5, none⟩ = some (.slice GA gl gc)) (first | exact hS4 | exact hS5 | exact hS6)
        (first
          | (go_at_call 13; (with_reducible refine (usableX (B := w4.heap.size) vn tn nb A (some ⟨w3.heap.size + 1, 0, none⟩) A2 c 1 1 c2 (.slice GA gl gc) fa tb true false false _ ?_ ?_ ?_ ?_ hc hm hc2 hm2 hnt).mono ?_); exact hxd; exact hyd; exact hdd; exact Nat.le_refl _; rintro e w5 ⟨rfl, hb5⟩; replace hb5 : Below w4.heap.size w4 w5 := (Below.refl _ _).drew.trans hb5; have hS5 := S14.keep hb5 hS4 hz4 hd9)
          | (go_at_call 13; (with_reducible refine (usableX (B := B) vn tn nb A D A2 c dl dc c2 (.slice GA gl gc) fa tb vh nul true _ ?_ ?_ ?_ ?_ hc hm hc2 hm2 hnt).mono ?_); exact Rd.via hb5 hx4 hB4; exact Rd.via hb5 hy4 hB4; exact Dflt.keep hd4 hb5 hB4; exact Nat.le_trans hB4 hb5.size; rintro e w6 ⟨rfl, hb6⟩; have hS6 := S14.keep hb6 hS5 (Nat.lt_of_lt_of_le hz4 hb5.size) (Nat.lt_of_lt_of_le hd9 hb5.size)))
      go_wp2
      go_ret
      exact ⟨ret_bool (by rw [told_has tn nb fa tb vh nul]; simp), hw5.trans ((hb5.trans (hb6.mono hb5.size)).mono (by omega))⟩

set_option maxHeartbeats 8000000 in
set_option maxRecDepth 100000 in
theorem walk_big (vn tn nb : ByteArray) (A D A2 : Option Addr) (n c dl dc n2 c2 : Nat) (GA : Option Addr) (gl gc : Nat) (vh has : Bool) (w : World) (hbig : 20 < n ∨ 20 < n2 ∨ 100 < dl) :
    Calls Try.prog 4 #[inp vn tn A n c vh D dl dc (.slice GA gl gc), rf nb A2 n2 c2, .bool has] w fun e w' => e = .returned (.bool true) ∧ Below w.heap.size w w' := by
  have hb0 : Below w.heap.size w ((w.alloc (.cells #[.string vn, .string tn, .slice A n c, .bool vh, .slice D dl dc, .slice GA gl gc] 33)).alloc (.cells #[.string nb, .slice A2 n2 c2] 24)) := ((Below.refl _ _).alloc (Nat.le_refl _) _).alloc (by simp) _
  have hT0 := Two.new w (.string vn) (.string tn) (.slice A n c) (.bool vh) (.slice D dl dc) (.slice GA gl gc) (.string nb) (.slice A2 n2 c2) 33 24
  have hz0 : w.heap.size + 1 < ((w.alloc (.cells #[.string vn, .string tn, .slice A n c, .bool vh, .slice D dl dc, .slice GA gl gc] 33)).alloc (.cells #[.string nb, .slice A2 n2 c2] 24)).heap.size := by simp
  unfold inp rf
  go_enter Try.func4, Try.ntmps4
  go_wp2_with fail
  refine (alive_any _).mono ?_
  rintro e w1 ⟨rfl, hb1⟩
  have hT1 := Two.keep hb1 hT0 hz0
  have hz1 : w.heap.size + 1 < w1.heap.size := Nat.lt_of_lt_of_le hz0 hb1.size
  have hz1' : w.heap.size < w1.heap.size := by omega
  have hw1 : Below w.heap.size w w1 := hb0.trans (hb1.mono hb0.size)
  clear hb1 hb0 hT0 hz0
  obtain ⟨p0, p1, p2, p3, p4, p5, q0, q1⟩ := hT1
  by_cases h1 : (20 : Int) < n
  · clear hbig
    go_wp2
    go_ret
    exact ⟨rfl, hw1⟩
  · by_cases h2 : (20 : Int) < n2
    · clear hbig
      go_wp2
      go_ret
      exact ⟨rfl, hw1⟩
    · have h3 : (100 : Int) < dl := by omega
      clear hbig
      go_wp2
      go_ret
      exact ⟨rfl, hw1⟩
theorem kind_uses (vn tn nb : ByteArray) (A D A2 : Option Addr) (c dl dc c2 : Nat) (GA : Option Addr) (gl gc : Nat) (fa tb : List UInt8) (vh nul has : Bool) (w : World) (hx : Rd w w.heap.size A (bv fa)) (hy : Rd w w.heap.size A2 (bv tb)) (hd : Dflt w w.heap.size D dl nul)
    (hc : fa.length ≤ c) (hm : c ≤ maxLen) (hc2 : tb.length ≤ c2) (hm2 : c2 ≤ maxLen) :
    Calls Try.prog 4 #[inp vn tn A fa.length c vh D dl dc (.slice GA gl gc), rf nb A2 tb.length c2, .bool has] w fun e w' => e = .returned (.bool true) ∧ Below w.heap.size w w' := by
  by_cases h : 20 < fa.length ∨ 20 < tb.length ∨ 100 < dl
  · exact walk_big vn tn nb A D A2 _ c dl dc _ c2 GA gl gc vh has w h
  · exact walk_small vn tn nb A D A2 c dl dc c2 GA gl gc fa tb vh nul has w hx hy hd (Nat.le_refl _) hc hm hc2 hm2 (by omega) (by omega) (by omega)
section
open Go.ChangeShapes Go.WideShapes Go.ChangeAt
open Go.ChangeMaps (open_string shut_string)

theorem own : ownKnob Try.prog.godebug = none := by kernel_rfl
theorem laidOut : laidOutB Try.prog = true := by kernel_rfl
set_option maxRecDepth 100000 in
theorem lifted (os : Os) (started : os.Started) (H : Type) (enc : TypeId × Value → H) :
    ReturnsInHanded {} Try.checked os 4 .any (Rows.kindUsesSpec.pre6 enc Try.prog Try.f4 Rows.kindUsesRow.domain false) (Rows.kindUsesSpec.post enc Try.prog Try.f4 false true false false) := by
  refine returnsInHanded_of_change_shaped (C := Try.checked) own started (by kernel_rfl) Try.func4
    (ChangeSpec.witness6 (enc := enc) (C := Try.checked) false ⟨#[], #[.agg #[.string ⟨#[]⟩, .string ⟨#[]⟩, .slice none 0 0, .bool false, .slice none 0 0, .slice none 0 0], .agg #[.string ⟨#[]⟩, .slice none 0 0], .bool false], []⟩ 8 (by kernel_rfl) (by kernel_rfl) (by kernel_rfl) (by kernel_rfl)) ?_
  intro W base args ds gs before hval0 hW _ hsz0 hsh0 _
  have hsh : W.ShapedOpen Try.prog := hsh0
  have hsz : (DataW.weightsEach Try.prog (Try.f4.params.toList ++ Rows.kindUsesSpec.plain.varTypes Try.prog) (ds ++ gs)).all (· ≤ reachBytes) = true := hsz0
  clear hsz0 hsh0
  have hval : ∀ (j : Nat) t v, Try.f4.params[j]? = some t → args[j]? = some v → Value.okWide Try.prog W .any base t v := hval0
  have hW' := hW
  obtain ⟨p, q, hA0, hV, rfl, hfz, hnd⟩ := hW
  have hA : DataW.TrodAll enc Try.prog W 0 (fun _ => true) true Try.f4.params.toList args.toList ds p := hA0
  rw [Try.params4] at hA hval hsz
  have hlt0 : ∀ x ∈ p, x.block < W.heap.size := fun x hx => hW'.lt x (by simp [hx])
  obtain ⟨v0, vs0, d0, ds0, p0, q0, hargs, rfl, rfl, h0, r0⟩ := trodAll_cons hA
  obtain ⟨v1, vs1, d1, ds1, p1, q1, rfl, rfl, rfl, h1, r1⟩ := trodAll_cons r0
  obtain ⟨v2, vs2, d2, ds2, p2, q2, rfl, rfl, rfl, h2, r2⟩ := trodAll_cons r1
  obtain ⟨rfl, rfl, rfl⟩ := trodAll_nil r2
  obtain rfl : args = #[v0, v1, v2] := by cases args; simp_all
  obtain ⟨rfl, rfl⟩ := trodVars_none hV
  obtain ⟨vnx, tnx, Ax, cx, x, vhx, Dx, dlx, dcx, nulx, GAx, glx, gcx, rfl, hx, lx, mx, hdx⟩ := open_input (hval 0 33 v0 rfl rfl) h0
  obtain ⟨nmy, Ay, cy, y, rfl, hy, ly, my⟩ := open_ref (hval 1 24 v1 rfl rfl) h1
  obtain ⟨has, rfl⟩ := open_bool Try.underlying4 (hval 2 4 v2 rfl rfl) h2
  clear hA0 hval0
  refine (kind_uses vnx tnx nmy Ax Dx Ay cx dlx dcx cy GAx glx gcx x y vhx nulx has W hx hy hdx lx mx ly my).mono fun e W' ⟨he, hb⟩ => ⟨_, he, ?_⟩
  exact law_post laidOut (of_decide_eq_true (by kernel_rfl)) rfl rfl Try.underlying4 (fun ds hl => by
    match ds, hl with
    | [_, _, _], _ => rfl) hW' hb

theorem proved : Rows.KindUsesSaid :=
  OpenClaim.holds_of_wide 4 Try.f4 rfl rfl rfl rfl rfl rfl rfl ⟨rfl, rfl, rfl, rfl, rfl⟩ rfl rfl rfl rfl rfl (by kernel_rfl) Try.func4 (by kernel_rfl)
    (of_decide_eq_true (by kernel_rfl)) (by unfold Func.isWrapper; first | (rw [if_pos (by decide +kernel)]; kernel_rfl) | (rw [if_neg (by decide +kernel)]; exact ⟨rfl, rfl⟩))
    (fun os started H enc _ => lifted os started H enc)
end
end Go.Proofs.Ytgoecnhkmfnenaa.kindUses
