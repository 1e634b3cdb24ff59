/- Contract of kind.Fits: which type fits which. Conditions: lengths within the model's. -/
import Derived.Test.YtgoecnhkmfnenaaKind
namespace Go.Proofs.Ytgoecnhkmfnenaa
open Go.RowKit

/-- which type fits which: names, wrappers -/
def fits (na nb : ByteArray) : List UInt8 → List UInt8 → Bool
  | [], tb => (match tb with | [] => decide (na = nb) | _ => false)
  | a :: fa, tb =>
    if tb.head? = some 1 then (if a = 1 then fits na nb fa tb.tail else false)
    else if a = 1 then fits na nb fa tb
    else if a = 2 then (if tb.head? = some 2 then fits na nb fa tb.tail else false)
    else false

@[go_sem] theorem method_of (s : ByteArray) (w : World) : (method 219 63 (.agg #[.string s]) "provost/kind.of").run Try.prog w = .ok (66, .agg #[.string s]) w := by kernel_rfl
set_option maxHeartbeats 1000000 in
theorem of_any (s : ByteArray) (w : World) : Calls Try.prog 66 #[.agg #[.string s]] w fun e w' => e = .returned (.string s) ∧ Below w.heap.size w w' := by
  go_enter Try.func66, Try.ntmps66
  go_wp2
  go_ret
  exact ⟨rfl, by repeat (first | exact Below.refl _ _ | refine Below.alloc ?_ (by first | omega | (simp; omega)) _)⟩

theorem bcell {W w1 : World} (hb : Below W.heap.size W w1) : (∀ b o, b < W.heap.size → w1.cell? ⟨b, o, none⟩ = W.cell? ⟨b, o, none⟩) ∧ (∀ b o, b < W.heap.size → w1.frozen? ⟨b, o, none⟩ = W.frozen? ⟨b, o, none⟩) :=
  ⟨fun b o h => hb.cell (p := ⟨b, o, none⟩) h, fun b o h => hb.frozen (p := ⟨b, o, none⟩) h⟩

def S4 (g : Nat) (x0 x1 y0 y1 : Value) (w : World) : Prop :=
  w.cell? ⟨g, 0, none⟩ = some x0 ∧ w.cell? ⟨g, 1, none⟩ = some x1 ∧ w.cell? ⟨g + 1, 0, none⟩ = some y0 ∧ w.cell? ⟨g + 1, 1, none⟩ = some y1
theorem S4.keep {g : Nat} {x0 x1 y0 y1 : Value} {w w1 : World} (hb : Below w.heap.size w w1) (h : S4 g x0 x1 y0 y1 w) (hg : g + 1 < w.heap.size) :
    w1.cell? ⟨g, 0, none⟩ = some x0 ∧ w1.cell? ⟨g, 1, none⟩ = some x1 ∧ w1.cell? ⟨g + 1, 0, none⟩ = some y0 ∧ w1.cell? ⟨g + 1, 1, none⟩ = some y1 := by
  obtain ⟨h1, h2, h3, h4⟩ := h
  exact ⟨(hb.cell (p := ⟨g, 0, none⟩) (by show g < _; omega)).trans h1, (hb.cell (p := ⟨g, 1, none⟩) (by show g < _; omega)).trans h2,
    (hb.cell (p := ⟨g + 1, 0, none⟩) (by show g + 1 < _; omega)).trans h3, (hb.cell (p := ⟨g + 1, 1, none⟩) (by show g + 1 < _; omega)).trans h4⟩
theorem S4.new (w : World) (x0 x1 y0 y1 : Value) (t : TypeId) : S4 w.heap.size x0 x1 y0 y1 ((w.alloc (.cells #[x0, x1] t)).alloc (.cells #[y0, y1] t)) := by
  unfold S4
  refine ⟨?_, ?_, ?_, ?_⟩
  · rw [World.cell?_alloc_past _ _ _ (by simp), World.cell?_alloc_at _ _ _ _ rfl]; rfl
  · rw [World.cell?_alloc_past _ _ _ (by simp), World.cell?_alloc_at _ _ _ _ rfl]; rfl
  · rw [World.cell?_alloc_at _ _ _ _ (by simp)]; rfl
  · rw [World.cell?_alloc_at _ _ _ _ (by simp)]; rfl

def OldCell (w2 : World) (a : Addr) (v : Value) : Prop :=
  w2.cell? a = some v ∧ (∀ o, (w2.alloc o).cell? a = some v) ∧ (∀ o o', ((w2.alloc o).alloc o').cell? a = some v) ∧ (∀ o o' o'', (((w2.alloc o).alloc o').alloc o'').cell? a = some v)
theorem OldCell.mk' {w2 : World} {a : Addr} {v : Value} (h : w2.cell? a = some v) (hb : a.block < w2.heap.size) : OldCell w2 a v := by
  have h1 : ∀ o, (w2.alloc o).cell? a = some v := fun o => by rw [World.cell?_alloc_lt _ _ _ hb]; exact h
  have h2 : ∀ o o', ((w2.alloc o).alloc o').cell? a = some v := fun o o' => by rw [World.cell?_alloc_lt _ _ _ (by simp; omega)]; exact h1 o
  exact ⟨h, h1, h2, fun o o' o'' => by rw [World.cell?_alloc_lt _ _ _ (by simp; omega)]; exact h2 o o'⟩

set_option maxHeartbeats 4000000 in
set_option maxRecDepth 100000 in
theorem fits_any (na nb : ByteArray) (fa : List UInt8) : ∀ (tb : List UInt8) (A A2 : Option Addr) (c c2 : Nat) (w : World) (B : Nat) (_ : Rd w B A (bv fa)) (_ : Rd w B A2 (bv tb)) (_ : B ≤ w.heap.size) (_ : fa.length ≤ c) (_ : c ≤ maxLen) (_ : tb.length ≤ c2) (_ : c2 ≤ maxLen),
    Calls Try.prog 9 #[rf na A fa.length c, rf nb A2 tb.length c2] w fun e w' => e = .returned (.bool (fits na nb fa tb)) ∧ Below w.heap.size w w' := by
  induction fa with
  | nil =>
    intro tb A A2 c c2 w B hx hy hB hc hm hc2 hm2
    generalize hfa : ([] : List UInt8) = fa at *
    have hb0 : Below w.heap.size w ((w.alloc (.cells #[.string na, .slice A fa.length c] 24)).alloc (.cells #[.string nb, .slice A2 tb.length c2] 24)) := ((Below.refl _ _).alloc (Nat.le_refl _) _).alloc (by simp) _
    have hx0 := hx.thru hb0 hB
    have hy0 := hy.thru hb0 hB
    have hS0 := S4.new w (.string na) (.slice A fa.length c) (.string nb) (.slice A2 tb.length c2) 24
    have hSz : w.heap.size + 1 < ((w.alloc (.cells #[.string na, .slice A fa.length c] 24)).alloc (.cells #[.string nb, .slice A2 tb.length c2] 24)).heap.size := by simp
    unfold rf
    go_enter Try.func9, Try.ntmps9
    go_wp2
    go_region_held3 (fun w' => w'.cell? ⟨w.heap.size, 0, none⟩ = some (.string na) ∧ w'.cell? ⟨w.heap.size, 1, none⟩ = some (.slice A fa.length c) ∧ w'.cell? ⟨w.heap.size + 1, 0, none⟩ = some (.string nb) ∧ w'.cell? ⟨w.heap.size + 1, 1, none⟩ = some (.slice A2 tb.length c2)) (first | exact hS0 | exact hS1 | exact hS2)
      (first
        | (go_at_call 25; (with_reducible refine (kindOf_any (B := B) na A c fa _ ?_ ?_ hc hm).mono ?_); exact hx0; exact Nat.le_trans hB hb0.size; rintro e w1 ⟨v1, rfl, hv1, hb1⟩; have hS1 := S4.keep hb1 hS0 hSz)
        | (go_at_call 25; (with_reducible refine (kindOf_any (B := B) nb A2 c2 tb _ ?_ ?_ hc2 hm2).mono ?_); exact Rd.via hb1 hy0 (Nat.le_trans hB hb0.size); exact Nat.le_trans hB (Nat.le_trans hb0.size hb1.size); rintro e w2 ⟨v2, rfl, hv2, hb2⟩; have hS2 := S4.keep hb2 hS1 (Nat.lt_of_lt_of_le hSz hb1.size)))
    have hbW := hb0.drew.trans ((Below.trans (b := _) hb1 (hb2.mono hb1.size)).mono hb0.size)
    have hs2 : w.heap.size + 1 < w2.heap.size := Nat.lt_of_lt_of_le hSz (Nat.le_trans hb1.size hb2.size)
    have ho0 := OldCell.mk' hS2.2.2.1 hs2
    have ho1 := OldCell.mk' hS2.2.2.2 hs2
    have hyW := hy.thru hbW hB
    clear hS0 hS1 hS2 hSz hb0 hx0 hy0 hx hy
    obtain ⟨p0, p1, p2, p3⟩ := ho0
    obtain ⟨q0, q1, q2, q3⟩ := ho1
    clear p0 p1 q0 q1 p3 q3
    have hsB : B ≤ w1.heap.size := Nat.le_trans hB (Nat.le_trans (by simp; omega) hb1.size)
    have hsB2 : B ≤ w2.heap.size := Nat.le_trans hsB hb2.size
    have HB2 := Lib.hid hb2
    clear hb1 hb2
    subst hfa
    obtain rfl : v1 = _ := hv1
    rcases tb with _ | ⟨b, tb⟩
    · obtain rfl : v2 = _ := hv2
      go_wp2_with fail
      refine (of_any na _).mono ?_
      rintro e w3 ⟨rfl, hb3⟩
      go_wp2_with fail
      refine (of_any nb _).mono ?_
      rintro e w4 ⟨rfl, hb4⟩
      go_wp2
      go_ret
      exact ⟨ret_bool (by simp [fits, ba_beq]), (((hbW.alloc (by omega) _).alloc (by simp; omega) _).alloc (by simp; omega) _).trans ((hb3.trans (hb4.mono hb3.size)).mono (by simp; omega))⟩
    · rcases hv2 with ⟨rfl, A'', c'', rfl, hl1, hl2, hl3⟩ | ⟨rfl, A'', c'', rfl, hl1, hl2, hl3⟩ | ⟨g1, g2, rfl⟩
      · unfold rf
        go_wp2
        go_ret
        exact ⟨ret_bool (by simp [fits]), by repeat (first | exact hbW | refine Below.alloc ?_ (by first | omega | (simp; omega)) _)⟩
      · unfold rf
        go_wp2
        go_ret
        exact ⟨ret_bool (by simp [fits]), by repeat (first | exact hbW | refine Below.alloc ?_ (by first | omega | (simp; omega)) _)⟩
      · go_wp2
        go_ret
        exact ⟨ret_bool (by simp [fits]), by repeat (first | exact hbW | refine Below.alloc ?_ (by first | omega | (simp; omega)) _)⟩
  | cons a r ih =>
    intro tb A A2 c c2 w B hx hy hB hc hm hc2 hm2
    generalize hfa : a :: r = fa at *
    have hb0 : Below w.heap.size w ((w.alloc (.cells #[.string na, .slice A fa.length c] 24)).alloc (.cells #[.string nb, .slice A2 tb.length c2] 24)) := ((Below.refl _ _).alloc (Nat.le_refl _) _).alloc (by simp) _
    have hx0 := hx.thru hb0 hB
    have hy0 := hy.thru hb0 hB
    have hS0 := S4.new w (.string na) (.slice A fa.length c) (.string nb) (.slice A2 tb.length c2) 24
    have hSz : w.heap.size + 1 < ((w.alloc (.cells #[.string na, .slice A fa.length c] 24)).alloc (.cells #[.string nb, .slice A2 tb.length c2] 24)).heap.size := by simp
    unfold rf
    go_enter Try.func9, Try.ntmps9
    go_wp2
    go_region_held3 (fun w' => w'.cell? ⟨w.heap.size, 0, none⟩ = some (.string na) ∧ w'.cell? ⟨w.heap.size, 1, none⟩ = some (.slice A fa.length c) ∧ w'.cell? ⟨w.heap.size + 1, 0, none⟩ = some (.string nb) ∧ w'.cell? ⟨w.heap.size + 1, 1, none⟩ = some (.slice A2 tb.length c2)) (first | exact hS0 | exact hS1 | exact hS2)
      (first
        | (go_at_call 25; (with_reducible refine (kindOf_any (B := B) na A c fa _ ?_ ?_ hc hm).mono ?_); exact hx0; exact Nat.le_trans hB hb0.size; rintro e w1 ⟨v1, rfl, hv1, hb1⟩; have hS1 := S4.keep hb1 hS0 hSz)
        | (go_at_call 25; (with_reducible refine (kindOf_any (B := B) nb A2 c2 tb _ ?_ ?_ hc2 hm2).mono ?_); exact Rd.via hb1 hy0 (Nat.le_trans hB hb0.size); exact Nat.le_trans hB (Nat.le_trans hb0.size hb1.size); rintro e w2 ⟨v2, rfl, hv2, hb2⟩; have hS2 := S4.keep hb2 hS1 (Nat.lt_of_lt_of_le hSz hb1.size)))
    have hbW := hb0.drew.trans ((Below.trans (b := _) hb1 (hb2.mono hb1.size)).mono hb0.size)
    have hs2 : w.heap.size + 1 < w2.heap.size := Nat.lt_of_lt_of_le hSz (Nat.le_trans hb1.size hb2.size)
    have ho0 := OldCell.mk' hS2.2.2.1 hs2
    have ho1 := OldCell.mk' hS2.2.2.2 hs2
    have hyW := hy.thru hbW hB
    clear hS0 hS1 hS2 hSz hb0 hx0 hy0 hx hy
    obtain ⟨p0, p1, p2, p3⟩ := ho0
    obtain ⟨q0, q1, q2, q3⟩ := ho1
    clear p0 p1 q0 q1 p3 q3
    have hsB : B ≤ w1.heap.size := Nat.le_trans hB (Nat.le_trans (by simp; omega) hb1.size)
    have hsB2 : B ≤ w2.heap.size := Nat.le_trans hsB hb2.size
    have HB2 := Lib.hid hb2
    clear hb1 hb2
    subst hfa
    rcases hv1 with ⟨rfl, A', c', rfl, hk1, hk2, hk3⟩ | ⟨rfl, A', c', rfl, hk1, hk2, hk3⟩ | ⟨h1, h2, rfl⟩
    · have hk3' := Rd.via HB2.out hk3 hsB
      clear hk3
      unfold rf
      rcases tb with _ | ⟨b, tb⟩
      · obtain rfl : v2 = _ := hv2
        go_wp2_with fail
        refine (ih [] A' A2 c' c2 _ B (Rd.via (((Below.refl _ _).alloc (Nat.le_refl _) _).alloc (by simp) _) hk3' hsB2) Rd.nil (by simp; omega) hk1 hk2 hc2 hm2).mono ?_
        rintro e w3 ⟨rfl, hb3⟩
        go_wp2
        go_ret
        exact ⟨ret_bool (by simp [fits]), ((hbW.alloc (by omega) _).alloc (by simp; omega) _).trans (hb3.mono (by simp; omega))⟩
      · rcases hv2 with ⟨rfl, A'', c'', rfl, hl1, hl2, hl3⟩ | ⟨rfl, A'', c'', rfl, hl1, hl2, hl3⟩ | ⟨g1, g2, rfl⟩
        · unfold rf
          go_wp2_with fail
          refine (ih tb A' A'' c' c'' _ B (Rd.via (((Below.refl _ _).alloc (Nat.le_refl _) _).alloc (by simp) _) hk3' hsB2) (Rd.via (((Below.refl _ _).alloc (Nat.le_refl _) _).alloc (by simp) _) hl3 hsB2) (by simp; omega) hk1 hk2 hl1 hl2).mono ?_
          rintro e w3 ⟨rfl, hb3⟩
          go_wp2
          go_ret
          exact ⟨ret_bool (by simp [fits]), ((hbW.alloc (by omega) _).alloc (by simp; omega) _).trans (hb3.mono (by simp; omega))⟩
        · unfold rf
          go_wp2_with fail
          refine (ih (2 :: tb) A' A2 c' c2 _ B (Rd.via (((Below.refl _ _).alloc (Nat.le_refl _) _).alloc (by simp) _) hk3' hsB2) (Rd.via (((Below.refl _ _).alloc (Nat.le_refl _) _).alloc (by simp) _) hyW hsB2) (by simp; omega) hk1 hk2 hc2 hm2).mono ?_
          rintro e w3 ⟨rfl, hb3⟩
          go_wp2
          go_ret
          exact ⟨ret_bool (by simp [fits]), ((hbW.alloc (by omega) _).alloc (by simp; omega) _).trans (hb3.mono (by simp; omega))⟩
        · go_wp2_with fail
          refine (ih (b :: tb) A' A2 c' c2 _ B (Rd.via (((Below.refl _ _).alloc (Nat.le_refl _) _).alloc (by simp) _) hk3' hsB2) (Rd.via (((Below.refl _ _).alloc (Nat.le_refl _) _).alloc (by simp) _) hyW hsB2) (by simp; omega) hk1 hk2 hc2 hm2).mono ?_
          rintro e w3 ⟨rfl, hb3⟩
          go_wp2
          go_ret
          exact ⟨ret_bool (by simp [fits, g1]), ((hbW.alloc (by omega) _).alloc (by simp; omega) _).trans (hb3.mono (by simp; omega))⟩
    · have hk3' := Rd.via HB2.out hk3 hsB
      clear hk3
      unfold rf
      rcases tb with _ | ⟨b, tb⟩
      · obtain rfl : v2 = _ := hv2
        go_wp2
        go_ret
        exact ⟨ret_bool (by simp [fits]), by repeat (first | exact hbW | refine Below.alloc ?_ (by first | omega | (simp; omega)) _)⟩
      · rcases hv2 with ⟨rfl, A'', c'', rfl, hl1, hl2, hl3⟩ | ⟨rfl, A'', c'', rfl, hl1, hl2, hl3⟩ | ⟨g1, g2, rfl⟩
        · unfold rf
          go_wp2
          go_ret
          exact ⟨ret_bool (by simp [fits]), by repeat (first | exact hbW | refine Below.alloc ?_ (by first | omega | (simp; omega)) _)⟩
        · unfold rf
          go_wp2_with fail
          refine (ih tb A' A'' c' c'' _ B (Rd.via ((((Below.refl _ _).alloc (Nat.le_refl _) _).alloc (by simp) _).alloc (by simp; omega) _) hk3' hsB2) (Rd.via ((((Below.refl _ _).alloc (Nat.le_refl _) _).alloc (by simp) _).alloc (by simp; omega) _) hl3 hsB2) (by simp; omega) hk1 hk2 hl1 hl2).mono ?_
          rintro e w3 ⟨rfl, hb3⟩
          go_wp2
          go_ret
          exact ⟨ret_bool (by simp [fits]), (((hbW.alloc (by omega) _).alloc (by simp; omega) _).alloc (by simp; omega) _).trans (hb3.mono (by simp; omega))⟩
        · go_wp2
          go_ret
          exact ⟨ret_bool (by simp [fits, g1, g2]), by repeat (first | exact hbW | refine Below.alloc ?_ (by first | omega | (simp; omega)) _)⟩
    · rcases tb with _ | ⟨b, tb⟩
      · obtain rfl : v2 = _ := hv2
        go_wp2
        go_ret
        exact ⟨ret_bool (by simp [fits, h1, h2]), by repeat (first | exact hbW | refine Below.alloc ?_ (by first | omega | (simp; omega)) _)⟩
      · rcases hv2 with ⟨rfl, A'', c'', rfl, hl1, hl2, hl3⟩ | ⟨rfl, A'', c'', rfl, hl1, hl2, hl3⟩ | ⟨g1, g2, rfl⟩
        · unfold rf
          go_wp2
          go_ret
          exact ⟨ret_bool (by simp [fits, h1, h2]), by repeat (first | exact hbW | refine Below.alloc ?_ (by first | omega | (simp; omega)) _)⟩
        · unfold rf
          go_wp2
          go_ret
          exact ⟨ret_bool (by simp [fits, h1, h2]), by repeat (first | exact hbW | refine Below.alloc ?_ (by first | omega | (simp; omega)) _)⟩
        · go_wp2
          go_ret
          exact ⟨ret_bool (by simp [fits, h1, h2, g1, g2]), by repeat (first | exact hbW | refine Below.alloc ?_ (by first | omega | (simp; omega)) _)⟩
end Go.Proofs.Ytgoecnhkmfnenaa
