/- Contract of kind.Item at a list: what stands in it. Conditions: lengths within the model's. -/
import Derived.Test.YtgoecnhkmfnenaaSame
namespace Go.Proofs.Ytgoecnhkmfnenaa
open Go.RowKit
theorem item_list (nm : ByteArray) (A : Option Addr) (c : Nat) (ws : List UInt8) (w : World) {B : Nat} (hx : Rd w B A (bv (2 :: ws))) (hB : B ≤ w.heap.size) (hc : ws.length + 1 ≤ c) (hm : c ≤ maxLen) (hn : ws.length + 1 ≤ 140737488351232) :
    Calls Try.prog 10 #[.agg #[.string nm, .slice A (ws.length + 1) c]] w fun e w' => ∃ A' c', e = .returned (.tuple #[.agg #[.string nm, .slice A' ws.length c'], .bool true]) ∧ Rd w' w'.heap.size A' (bv ws) ∧ Below w.heap.size w w' := by
  have hb0 : Below w.heap.size w ((w.alloc (.cells #[.string nm, .slice A (ws.length + 1) c] 24)).alloc (.cells #[.string ⟨#[]⟩, .slice none 0 0] 24)) := ((Below.refl _ _).alloc (Nat.le_refl _) _).alloc (by simp) _
  have hbare := bare_any nm A c (2 :: ws) ((w.alloc (.cells #[.string nm, .slice A (ws.length + 1) c] 24)).alloc (.cells #[.string ⟨#[]⟩, .slice none 0 0] 24)) (B := B) (Rd.via hb0 hx hB) (Nat.le_trans hB hb0.size) hc hm hn
  unfold rf at hbare
  simp only [List.length_cons] at hbare
  go_enter Try.func10, Try.ntmps10
  go_wp2_with fail
  refine hbare.mono ?_
  rintro e w1 ⟨A1, c1, rfl, hown, hb1⟩
  have hbe : bare (2 :: ws) = 2 :: ws := by simp [bare]
  rw [hbe] at hown ⊢
  have hB1 : Below w.heap.size w w1 := hb0.trans (hb1.mono hb0.size)
  unfold rf
  simp only [List.length_cons]
  go_wp2_with fail
  have hkind := kindOf_any nm A1 c1 (2 :: ws) w1 (B := w1.heap.size) (Rd.of_own hown) (Nat.le_refl _) (own_len hown) (own_cap hown)
  simp only [List.length_cons] at hkind
  refine hkind.mono ?_
  rintro e w2 ⟨v2, rfl, hv2, hb2⟩
  have hB2 : Below w.heap.size w w2 := hB1.trans (hb2.mono hB1.size)
  rcases hv2 with ⟨h, _⟩ | ⟨_, A2, c2, rfl, h1, h2, h3⟩ | ⟨_, h, _⟩
  · exact absurd h (by decide)
  · unfold rf
    have htw := twin_any nm A2 c2 ws (w2.alloc (.cells #[.string nm, .slice A2 ws.length c2] 60)) (B := w1.heap.size) (Rd.via ((Below.refl w1.heap.size w2).alloc hb2.size _) h3 (Nat.le_refl _)) (by simp; have := hb2.size; omega) (by omega)
    unfold rf at htw
    have hB3 : Below w.heap.size w (w2.alloc (.cells #[.string nm, .slice A2 ws.length c2] 60)) := hB2.alloc hB2.size _
    go_wp2_with fail
    refine htw.mono ?_
    rintro e w4 ⟨A4, c4, rfl, hown4, hb4⟩
    have hB4 : Below w.heap.size w w4 := hB3.trans (hb4.mono hB3.size)
    have hz : ((w.alloc (.cells #[.string nm, .slice A (ws.length + 1) c] 24)).alloc (.cells #[.string ⟨#[]⟩, .slice none 0 0] 24)).heap.size = w.heap.size + 2 := by simp
    have g0 : ((w.alloc (.cells #[.string nm, .slice A (ws.length + 1) c] 24)).alloc (.cells #[.string ⟨#[]⟩, .slice none 0 0] 24)).heap[w.heap.size + 1]? = some (.cells #[.string ⟨#[]⟩, .slice none 0 0] 24) := by
      have : w.heap.size + 1 = (w.alloc (.cells #[.string nm, .slice A (ws.length + 1) c] 24)).heap.size := by simp
      rw [this]
      exact heap_alloc_new _ _
    have hs1 := hb1.size
    have hs2 := hb2.size
    have g4 : w4.heap[w.heap.size + 1]? = some (.cells #[.string ⟨#[]⟩, .slice none 0 0] 24) := by
      rw [hb4.block _ (by simp; omega), ((Below.refl w2.heap.size w2).alloc (Nat.le_refl _) _).block _ (by omega), hb2.block _ (by omega), hb1.block _ (by omega)]
      exact g0
    have k0 : w4.cell? ⟨w.heap.size + 1, 0, none⟩ = some (.string ⟨#[]⟩) := by simp [World.cell?, g4]
    have k1 : w4.cell? ⟨w.heap.size + 1, 1, none⟩ = some (.slice none 0 0) := by simp [World.cell?, g4]
    have f0 : w4.frozen? ⟨w.heap.size + 1, 0, none⟩ = false := by simp [World.frozen?, g4]
    have f1 : w4.frozen? ⟨w.heap.size + 1, 1, none⟩ = false := by simp [World.frozen?, g4]
    obtain ⟨w5, hw5⟩ : ∃ w5, (w4.setCell ⟨w.heap.size + 1, 0, none⟩ (.string nm)).setCell ⟨w.heap.size + 1, 1, none⟩ (.slice A4 ws.length c4) = w5 := ⟨_, rfl⟩
    have m0 : w5.cell? ⟨w.heap.size + 1, 0, none⟩ = some (.string nm) := by rw [← hw5]; simp [World.cell?, World.setCell, Array.getElem?_modify, g4]
    have m1 : w5.cell? ⟨w.heap.size + 1, 1, none⟩ = some (.slice A4 ws.length c4) := by rw [← hw5]; simp [World.cell?, World.setCell, Array.getElem?_modify, g4]
    have hB5 : Below w.heap.size w w5 := by rw [← hw5]; exact (hB4.setCell (Nat.le_succ _) _).setCell (Nat.le_succ _) _
    unfold rf
    have hlt2 : w.heap.size + 2 ≤ w2.heap.size := by omega
    clear hb4 hb2 hb1 hbare hkind htw g0 hz hs1 hs2
    have hown5 : OwnB w5 (w2.alloc (.cells #[.string nm, .slice A2 ws.length c2] 60)).heap.size (.slice A4 ws.length c4) ws := by
      have hsz : (w2.alloc (.cells #[.string nm, .slice A2 ws.length c2] 60)).heap.size = w2.heap.size + 1 := by simp
      rw [hsz] at hown4 ⊢
      refine ⟨hown4.1, ?_⟩
      rcases hown4.2 with h | ⟨g, cap, cur, q1, q2, q3, q4⟩
      · exact .inl h
      · refine .inr ⟨g, cap, cur, q1, q2, ?_, q4⟩
        rw [← hw5]
        simp only [World.setCell, Array.getElem?_modify]
        rw [if_neg (by omega), if_neg (by omega)]
        exact q3
    go_wp2
    exact bodyPost_ret (v := .tuple #[.agg #[.string nm, .slice A4 ws.length c4], .bool true]) (by simp [results, Try.results10, go_sem, m0, m1]) rfl ⟨A4, c4, rfl, Rd.of_own hown5, hB5⟩
  · exact absurd rfl h
end Go.Proofs.Ytgoecnhkmfnenaa
