/- Contracts of kind.Bare and kind.Item. Conditions: lengths within the model's. -/
import Derived.Test.YtgoecnhkmfnenaaRef
namespace Go.Proofs.Ytgoecnhkmfnenaa
open Go.RowKit

def bare : List UInt8 → List UInt8
  | [] => []
  | a :: r => if a = 1 then r else a :: r
def BarePost (nm : ByteArray) (ws : List UInt8) (w : World) (e : Ending) (w' : World) : Prop := TwinPost nm (bare ws) w e w'

/-- two boxes of two cells each, seen from a later world -/
theorem boxes {w w1 : World} {x0 x1 y0 y1 : Value} {t : TypeId} (hb : Below ((w.alloc (.cells #[x0, x1] t)).alloc (.cells #[y0, y1] t)).heap.size ((w.alloc (.cells #[x0, x1] t)).alloc (.cells #[y0, y1] t)) w1) :
    (w1.cell? ⟨w.heap.size, 0, none⟩ = some x0 ∧ w1.cell? ⟨w.heap.size, 1, none⟩ = some x1 ∧ w1.cell? ⟨w.heap.size + 1, 0, none⟩ = some y0 ∧ w1.cell? ⟨w.heap.size + 1, 1, none⟩ = some y1) ∧
    w1.frozen? ⟨w.heap.size, 0, none⟩ = false ∧ w1.frozen? ⟨w.heap.size, 1, none⟩ = false ∧ w1.frozen? ⟨w.heap.size + 1, 0, none⟩ = false ∧ w1.frozen? ⟨w.heap.size + 1, 1, none⟩ = false := by
  have hz : w.heap.size + 1 < ((w.alloc (.cells #[x0, x1] t)).alloc (.cells #[y0, y1] t)).heap.size := by simp
  refine ⟨S4.keep hb (S4.new w x0 x1 y0 y1 t) hz, ?_, ?_, ?_, ?_⟩
  · exact (hb.frozen (p := ⟨w.heap.size, 0, none⟩) (Nat.lt_of_succ_lt hz)).trans (by rw [World.frozen?_alloc_old _ _ _ (by simp)]; exact World.frozen?_alloc_at _ _ _ _ rfl)
  · exact (hb.frozen (p := ⟨w.heap.size, 1, none⟩) (Nat.lt_of_succ_lt hz)).trans (by rw [World.frozen?_alloc_old _ _ _ (by simp)]; exact World.frozen?_alloc_at _ _ _ _ rfl)
  · exact (hb.frozen (p := ⟨w.heap.size + 1, 0, none⟩) hz).trans (World.frozen?_alloc_at _ _ _ _ (by simp))
  · exact (hb.frozen (p := ⟨w.heap.size + 1, 1, none⟩) hz).trans (World.frozen?_alloc_at _ _ _ _ (by simp))

set_option maxHeartbeats 2000000 in
theorem bare_non (nm : ByteArray) (A : Option Addr) (c : Nat) (r : List UInt8) (w : World) {B : Nat} (hx : Rd w B A (bv (1 :: r))) (hB : B ≤ w.heap.size) (hc : r.length + 1 ≤ c) (hm : c ≤ maxLen) (hn : r.length ≤ 140737488351231) :
    Calls Try.prog 12 #[rf nm A (r.length + 1) c] w (TwinPost nm r w) := by
  have hb0 : Below w.heap.size w ((w.alloc (.cells #[.string nm, .slice A (r.length + 1) c] 24)).alloc (.cells #[.string ⟨#[]⟩, .slice none 0 0] 24)) := ((Below.refl _ _).alloc (Nat.le_refl _) _).alloc (by simp) _
  have hx0 := hx.thru hb0 hB
  have hB0 := Nat.le_trans hB hb0.size
  unfold rf
  go_enter Try.func12, Try.ntmps12
  go_wp2_with fail
  refine (kindOf_non nm A c r _ hx0 hB0 hc hm).mono ?_
  rintro e w1 ⟨A', c', rfl, h1, h2, h3, hb1⟩
  obtain ⟨⟨k0, k1, k2, k3⟩, g0, g1, g2, g3⟩ := boxes hb1
  have hz : w.heap.size + 1 < w1.heap.size := by have := hb1.size; simp at this; omega
  have hz0 : w.heap.size < w1.heap.size := by omega
  unfold rf
  go_wp2_with fail
  have hb2 : Below w.heap.size w1 (((w1.setCell ⟨w.heap.size, 0, none⟩ (.string nm)).setCell ⟨w.heap.size, 1, none⟩ (.slice A' r.length c')).alloc (.cells #[.string nm, .slice A' r.length c'] 58)) := by
    refine Below.alloc ?_ (by simp; omega) _
    refine Below.setCell ?_ (by simp) _
    refine Below.setCell ?_ (by simp) _
    exact Below.refl _ _
  have e2 : ((((w1.setCell ⟨w.heap.size, 0, none⟩ (.string nm)).setCell ⟨w.heap.size, 1, none⟩ (.slice A' r.length c')).alloc (.cells #[.string nm, .slice A' r.length c'] 58))).cell? ⟨w.heap.size + 1, 0, none⟩ = some (.string ⟨#[]⟩) := by
    refine (World.cell?_alloc_lt _ _ _ (by simp; omega)).trans ((World.cell?_setCell_other _ _ _ _ (by simp)).trans ((World.cell?_setCell_other _ _ _ _ (by simp)).trans ?_)); exact k2
  have e3 : ((((w1.setCell ⟨w.heap.size, 0, none⟩ (.string nm)).setCell ⟨w.heap.size, 1, none⟩ (.slice A' r.length c')).alloc (.cells #[.string nm, .slice A' r.length c'] 58))).cell? ⟨w.heap.size + 1, 1, none⟩ = some (.slice none 0 0) := by
    refine (World.cell?_alloc_lt _ _ _ (by simp; omega)).trans ((World.cell?_setCell_other _ _ _ _ (by simp)).trans ((World.cell?_setCell_other _ _ _ _ (by simp)).trans ?_)); exact k3
  have f2 : ((((w1.setCell ⟨w.heap.size, 0, none⟩ (.string nm)).setCell ⟨w.heap.size, 1, none⟩ (.slice A' r.length c')).alloc (.cells #[.string nm, .slice A' r.length c'] 58))).frozen? ⟨w.heap.size + 1, 0, none⟩ = false := by
    refine (World.frozen?_alloc_old _ _ _ (by simp; omega)).trans ?_; rw [World.frozen?_setCell, World.frozen?_setCell]; exact g2
  have f3 : ((((w1.setCell ⟨w.heap.size, 0, none⟩ (.string nm)).setCell ⟨w.heap.size, 1, none⟩ (.slice A' r.length c')).alloc (.cells #[.string nm, .slice A' r.length c'] 58))).frozen? ⟨w.heap.size + 1, 1, none⟩ = false := by
    refine (World.frozen?_alloc_old _ _ _ (by simp; omega)).trans ?_; rw [World.frozen?_setCell, World.frozen?_setCell]; exact g3
  refine (twin_any (B := B) nm A' c' r _ (Rd.via hb2 h3 hB) (Nat.le_trans hB (Nat.le_trans (by omega) hb2.size)) (by omega)).mono ?_
  rintro e w2 ⟨A2, c2, rfl, hown, hb3⟩
  have hs3 := hb3.size
  simp only [World.size_alloc, World.size_setCell] at hs3
  have m2 : w2.cell? ⟨w.heap.size + 1, 0, none⟩ = some (.string ⟨#[]⟩) := (hb3.cell (p := ⟨w.heap.size + 1, 0, none⟩) (by simp; omega)).trans e2
  have m3 : w2.cell? ⟨w.heap.size + 1, 1, none⟩ = some (.slice none 0 0) := (hb3.cell (p := ⟨w.heap.size + 1, 1, none⟩) (by simp; omega)).trans e3
  have n2 : w2.frozen? ⟨w.heap.size + 1, 0, none⟩ = false := (hb3.frozen (p := ⟨w.heap.size + 1, 0, none⟩) (by simp; omega)).trans f2
  have n3 : w2.frozen? ⟨w.heap.size + 1, 1, none⟩ = false := (hb3.frozen (p := ⟨w.heap.size + 1, 1, none⟩) (by simp; omega)).trans f3
  have hw2 : Below w.heap.size w w2 := (hb0.trans (hb1.mono hb0.size)).trans (hb2.trans (hb3.mono (by simp; omega)))
  clear e2 e3 f2 f3 k0 k1 k2 k3 g0 g1 g2 g3
  unfold rf
  go_wp2
  refine bodyPost_ret (v := rf nm A2 r.length c2) (by simp [results, Try.results12, go_sem, m2, m3, rf]) rfl ⟨A2, c2, rfl, ?_, (hw2.setCell (by simp) _).setCell (by simp) _⟩
  unfold OwnB at hown ⊢
  exact own_base (ownsRow_setCell_below (ownsRow_setCell_below hown (by simp; omega) _) (by simp; omega) _) (by simp; omega)

set_option maxHeartbeats 2000000 in
theorem bare_same (nm : ByteArray) (A : Option Addr) (c : Nat) (ws : List UInt8) (w : World) {B : Nat} (hx : Rd w B A (bv ws)) (hB : B ≤ w.heap.size) (hc : ws.length ≤ c) (hm : c ≤ maxLen) (hn : ws.length ≤ 140737488351232) (hh : ws.head? ≠ some 1) :
    Calls Try.prog 12 #[rf nm A ws.length c] w (TwinPost nm ws w) := by
  have hb0 : Below w.heap.size w ((w.alloc (.cells #[.string nm, .slice A ws.length c] 24)).alloc (.cells #[.string ⟨#[]⟩, .slice none 0 0] 24)) := ((Below.refl _ _).alloc (Nat.le_refl _) _).alloc (by simp) _
  have hx0 := hx.thru hb0 hB
  have hB0 := Nat.le_trans hB hb0.size
  have HH := Lib.hid hh
  clear hh
  unfold rf
  go_enter Try.func12, Try.ntmps12
  go_wp2_with fail
  refine (kindOf_any nm A c ws _ hx0 hB0 hc hm).mono ?_
  rintro e w1 ⟨v, rfl, hv, hb1⟩
  obtain ⟨⟨k0, k1, k2, k3⟩, g0, g1, g2, g3⟩ := boxes hb1
  have hz : w.heap.size + 1 < w1.heap.size := by have := hb1.size; simp at this; omega
  have hz0 : w.heap.size < w1.heap.size := by omega
  have hx1 := Rd.via hb1 hx0 hB0
  have key : ∃ T x, v = .iface T x ∧ (∀ w : World, (Instr.typeAssert (.iface T x) 55 58 true).run Try.prog w = .ok (.tuple #[.agg #[.string ⟨#[]⟩, .slice none 0 0], .bool false]) w) := by
    rcases ws with _ | ⟨a, r⟩
    · exact ⟨_, _, hv, as_non_named _⟩
    · rcases hv with ⟨rfl, _⟩ | ⟨rfl, A', c', rfl, _⟩ | ⟨_, _, rfl⟩
      · exact absurd rfl HH.out
      · exact ⟨_, _, rfl, as_non_list _⟩
      · exact ⟨_, _, rfl, as_non_other _⟩
  obtain ⟨T, x, rfl, has⟩ := key
  clear hv
  go_wp2_with fail
  have hb2 : Below w1.heap.size w1 (w1.alloc (.cells #[.string ⟨#[]⟩, .slice none 0 0] 58)) := Below.alloc (Below.refl _ _) (Nat.le_refl _) _
  refine (twin_any (B := B) nm A c ws _ (Rd.via hb2 hx1 (Nat.le_trans hB0 hb1.size)) (Nat.le_trans (Nat.le_trans hB0 hb1.size) hb2.size) hn).mono ?_
  rintro e w2 ⟨A2, c2, rfl, hown, hb3⟩
  have hs3 := hb3.size
  simp only [World.size_alloc] at hs3
  have hb4 := hb2.trans (hb3.mono hb2.size)
  have m2 : w2.cell? ⟨w.heap.size + 1, 0, none⟩ = some (.string ⟨#[]⟩) := (hb4.cell (p := ⟨w.heap.size + 1, 0, none⟩) hz).trans k2
  have m3 : w2.cell? ⟨w.heap.size + 1, 1, none⟩ = some (.slice none 0 0) := (hb4.cell (p := ⟨w.heap.size + 1, 1, none⟩) hz).trans k3
  have n2 : w2.frozen? ⟨w.heap.size + 1, 0, none⟩ = false := (hb4.frozen (p := ⟨w.heap.size + 1, 0, none⟩) hz).trans g2
  have n3 : w2.frozen? ⟨w.heap.size + 1, 1, none⟩ = false := (hb4.frozen (p := ⟨w.heap.size + 1, 1, none⟩) hz).trans g3
  have hw2 : Below w.heap.size w w2 := (hb0.trans (hb1.mono hb0.size)).trans (hb4.mono (by omega))
  clear k0 k1 k2 k3 g0 g1 g2 g3 has
  unfold rf
  go_wp2
  refine bodyPost_ret (v := rf nm A2 ws.length c2) (by simp [results, Try.results12, go_sem, m2, m3, rf]) rfl ⟨A2, c2, rfl, ?_, (hw2.setCell (by simp) _).setCell (by simp) _⟩
  unfold OwnB at hown ⊢
  exact own_base (ownsRow_setCell_below (ownsRow_setCell_below hown (by simp; omega) _) (by simp; omega) _) (by simp; omega)

theorem bare_any (nm : ByteArray) (A : Option Addr) (c : Nat) (ws : List UInt8) (w : World) {B : Nat} (hx : Rd w B A (bv ws)) (hB : B ≤ w.heap.size) (hc : ws.length ≤ c) (hm : c ≤ maxLen) (hn : ws.length ≤ 140737488351232) :
    Calls Try.prog 12 #[rf nm A ws.length c] w (TwinPost nm (bare ws) w) := by
  rcases ws with _ | ⟨a, r⟩
  · exact bare_same nm A c [] w hx hB hc hm hn (by simp)
  · by_cases h : a = 1
    · subst h
      have : bare (1 :: r) = r := by simp [bare]
      rw [this]
      exact bare_non nm A c r w hx hB hc hm (by simp at hn; omega)
    · have : bare (a :: r) = a :: r := by simp [bare, h]
      rw [this]
      exact bare_same nm A c (a :: r) w hx hB hc hm hn (by simp [h])
end Go.Proofs.Ytgoecnhkmfnenaa
