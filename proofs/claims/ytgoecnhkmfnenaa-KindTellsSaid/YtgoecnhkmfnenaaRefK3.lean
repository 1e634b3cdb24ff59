/- The reference's Bare and Item: in the program's own terms. Conditions: lengths within the model's. -/
import Derived.Test.YtgoecnhkmfnenaaRefK2
namespace Go.Proofs.Ytgoecnhkmfnenaa
open Go.RowKit
theorem wr1_one (r : List UInt8) : wr1 (1 :: r) 1 = true := rfl
theorem wr1_not {ws : List UInt8} {x : UInt8} (h : ws.head? ≠ some x) : wr1 ws x = false := decide_eq_false h
set_option maxHeartbeats 4000000 in
theorem bare_ref (nm : ByteArray) (A : Option Addr) (c : Nat) (ws : List UInt8) (w : World) {B : Nat} (hx : Rd w B A (bv ws)) (hB : B ≤ w.heap.size) (hc : ws.length ≤ c) (hm : c ≤ maxLen) (hn : ws.length ≤ 140737488351232) :
    Calls Try.prog 22 #[.agg #[.string nm, .slice A ws.length c]] w (TwinX nm (bare ws) w) := by
  have hb0 : Below w.heap.size w ((w.alloc (.cells #[.string nm, .slice A ws.length c] 24)).alloc (.cells #[.string ⟨#[]⟩, .slice none 0 0] 24)) := ((Below.refl _ _).alloc (Nat.le_refl _) _).alloc (by simp) _
  have hx0 := hx.thru hb0 hB
  have hB0 := Nat.le_trans hB hb0.size
  have hnon := non_ref nm A c ws _ hx0 hB0
  by_cases h1 : ws.head? = some 1
  · obtain ⟨r, rfl⟩ : ∃ r, ws = 1 :: r := by
      rcases ws with _ | ⟨a, r⟩
      · simp at h1
      · simp at h1; exact ⟨r, by rw [h1]⟩
    rw [wr1_one] at hnon
    have hbe : bare (1 :: r) = r := by simp [bare]
    rw [hbe]
    simp only [List.length_cons] at hnon hc hn hb0 hx0 hB0 ⊢
    go_enter Try.func22, Try.ntmps22
    go_wp2_with fail
    refine hnon.mono ?_
    rintro e w1 ⟨rfl, hb1⟩
    obtain ⟨⟨k0, k1, k2, k3⟩, g0, g1, g2, g3⟩ := boxes hb1
    have hx1 := Rd.via hb1 hx0 hB0
    go_wp2_with fail
    have hB1 := Nat.le_trans hB0 hb1.size
    refine (in_ref nm A c 1 r w1 hx1 hB1 hc hm).mono ?_
    rintro e w2 ⟨A2, c2, rfl, q1, q2, q3, hb2⟩
    have hb12 := hb1.trans (hb2.mono hb1.size)
    clear k0 k1 k2 k3 g0 g1 g2 g3
    obtain ⟨⟨k0, k1, k2, k3⟩, g0, g1, g2, g3⟩ := boxes hb12
    go_wp2_with fail
    refine (twin_ref nm A2 c2 r w2 q3 (Nat.le_trans hB1 hb2.size) (by omega)).mono ?_
    rintro e w3 ⟨A3, c3, rfl, hown, hb3⟩
    have hb13 := hb12.trans (hb3.mono hb12.size)
    clear k0 k1 k2 k3 g0 g1 g2 g3
    obtain ⟨⟨k0, k1, k2, k3⟩, g0, g1, g2, g3⟩ := boxes hb13
    have hz : w.heap.size + 1 < w2.heap.size := by have := hb12.size; simp at this; omega
    have hw3 : Below w.heap.size w w3 := hb0.trans (hb13.mono hb0.size)
    go_wp2_with fail
    refine bodyPost_ret (v := .agg #[.string nm, .slice A3 r.length c3]) (by simp [results, Try.results22, go_sem, k2, k3]) rfl ⟨A3, c3, rfl, ?_, (hw3.setCell (by simp) _).setCell (by simp) _⟩
    unfold OwnB at hown ⊢
    exact own_base (ownsRow_setCell_below (ownsRow_setCell_below hown (by omega) _) (by omega) _) (by omega)
  · rw [wr1_not h1] at hnon
    have hbe : bare ws = ws := by
      rcases ws with _ | ⟨a, r⟩
      · rfl
      · simp at h1
        simp [bare, h1]
    rw [hbe]
    clear h1 hbe
    go_enter Try.func22, Try.ntmps22
    go_wp2_with fail
    refine hnon.mono ?_
    rintro e w1 ⟨rfl, hb1⟩
    obtain ⟨⟨k0, k1, k2, k3⟩, g0, g1, g2, g3⟩ := boxes hb1
    have hx1 := Rd.via hb1 hx0 hB0
    go_wp2_with fail
    have hB1 := Nat.le_trans hB0 hb1.size
    refine (twin_ref nm A c ws w1 hx1 hB1 hn).mono ?_
    rintro e w3 ⟨A3, c3, rfl, hown, hb3⟩
    have hb13 := hb1.trans (hb3.mono hb1.size)
    clear k0 k1 k2 k3 g0 g1 g2 g3
    obtain ⟨⟨k0, k1, k2, k3⟩, g0, g1, g2, g3⟩ := boxes hb13
    have hz : w.heap.size + 1 < w1.heap.size := by have := hb1.size; simp at this; omega
    have hw3 : Below w.heap.size w w3 := hb0.trans (hb13.mono hb0.size)
    go_wp2_with fail
    refine bodyPost_ret (v := .agg #[.string nm, .slice A3 ws.length c3]) (by simp [results, Try.results22, go_sem, k2, k3]) rfl ⟨A3, c3, rfl, ?_, (hw3.setCell (by simp) _).setCell (by simp) _⟩
    unfold OwnB at hown ⊢
    exact own_base (ownsRow_setCell_below (ownsRow_setCell_below hown (by omega) _) (by omega) _) (by omega)
end Go.Proofs.Ytgoecnhkmfnenaa
