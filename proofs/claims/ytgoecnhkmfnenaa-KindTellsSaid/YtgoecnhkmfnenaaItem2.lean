/- The program's Item at any type, and the reference's. Conditions: lengths within the model's. -/
import Derived.Test.YtgoecnhkmfnenaaRefK3
namespace Go.Proofs.Ytgoecnhkmfnenaa
open Go.RowKit
def ItemY (nm : ByteArray) (r : List UInt8) (w : World) (e : Ending) (w' : World) : Prop :=
  ∃ A' c', e = .returned (.tuple #[.agg #[.string nm, .slice A' r.length c'], .bool true]) ∧ OwnB w' w.heap.size (.slice A' r.length c') r ∧ Below w.heap.size w w'
set_option maxHeartbeats 4000000 in
theorem item_yes (nm : ByteArray) (A : Option Addr) (n c : Nat) (xs ws : List UInt8) (hbe : bare xs = 2 :: ws) (hxn : xs.length = n) (w : World) {B : Nat} (hx : Rd w B A (bv xs)) (hB : B ≤ w.heap.size) (hc : n ≤ c) (hm : c ≤ maxLen) (hn : n ≤ 140737488351232) (hwn : ws.length + 1 ≤ 140737488351232) :
    Calls Try.prog 10 #[.agg #[.string nm, .slice A n c]] w (ItemY nm ws w) := by
  have hb0 : Below w.heap.size w ((w.alloc (.cells #[.string nm, .slice A n c] 24)).alloc (.cells #[.string ⟨#[]⟩, .slice none 0 0] 24)) := ((Below.refl _ _).alloc (Nat.le_refl _) _).alloc (by simp) _
  have hbare := bare_any nm A c xs ((w.alloc (.cells #[.string nm, .slice A n c] 24)).alloc (.cells #[.string ⟨#[]⟩, .slice none 0 0] 24)) (B := B) (Rd.via hb0 hx hB) (Nat.le_trans hB hb0.size) (by omega) hm (by omega)
  rw [hbe, hxn] at hbare
  unfold rf at hbare
  go_enter Try.func10, Try.ntmps10
  go_wp2_with fail
  refine hbare.mono ?_
  rintro e w1 ⟨A1, c1, rfl, hown, hb1⟩
  have hB1 : Below w.heap.size w w1 := hb0.trans (hb1.mono hb0.size)
  unfold rf
  simp only [List.length_cons]
  go_wp2_with fail
  have hkind := kindOf_any nm A1 c1 (2 :: ws) w1 (B := w1.heap.size) (Rd.of_own hown) (Nat.le_refl _) (own_len hown) (own_cap hown)
  simp only [List.length_cons] at hkind
  refine hkind.mono ?_
  rintro e w2 ⟨v2, rfl, hv2, hb2⟩
  have hB2 : Below w.heap.size w w2 := hB1.trans (hb2.mono hB1.size)
  rcases hv2 with ⟨h, _⟩ | ⟨_, A2, c2, rfl, h1, h2, h3⟩ | ⟨_, h, _⟩
  · exact absurd h (by decide)
  · unfold rf
    have htw := twin_any nm A2 c2 ws (w2.alloc (.cells #[.string nm, .slice A2 ws.length c2] 60)) (B := w1.heap.size) (Rd.via ((Below.refl w1.heap.size w2).alloc hb2.size _) h3 (Nat.le_refl _)) (by simp; have := hb2.size; omega) (by omega)
    unfold rf at htw
    have hB3 : Below w.heap.size w (w2.alloc (.cells #[.string nm, .slice A2 ws.length c2] 60)) := hB2.alloc hB2.size _
    go_wp2_with fail
    refine htw.mono ?_
    rintro e w4 ⟨A4, c4, rfl, hown4, hb4⟩
    have hB4 : Below w.heap.size w w4 := hB3.trans (hb4.mono hB3.size)
    have hz : ((w.alloc (.cells #[.string nm, .slice A n c] 24)).alloc (.cells #[.string ⟨#[]⟩, .slice none 0 0] 24)).heap.size = w.heap.size + 2 := by simp
    have g0 : ((w.alloc (.cells #[.string nm, .slice A n c] 24)).alloc (.cells #[.string ⟨#[]⟩, .slice none 0 0] 24)).heap[w.heap.size + 1]? = some (.cells #[.string ⟨#[]⟩, .slice none 0 0] 24) := by
      have : w.heap.size + 1 = (w.alloc (.cells #[.string nm, .slice A n c] 24)).heap.size := by simp
      rw [this]
      exact heap_alloc_new _ _
    have hs1 := hb1.size
    have hs2 := hb2.size
    have g4 : w4.heap[w.heap.size + 1]? = some (.cells #[.string ⟨#[]⟩, .slice none 0 0] 24) := by
      rw [hb4.block _ (by simp; omega), ((Below.refl w2.heap.size w2).alloc (Nat.le_refl _) _).block _ (by omega), hb2.block _ (by omega), hb1.block _ (by omega)]
      exact g0
    have k0 : w4.cell? ⟨w.heap.size + 1, 0, none⟩ = some (.string ⟨#[]⟩) := by simp [World.cell?, g4]
    have k1 : w4.cell? ⟨w.heap.size + 1, 1, none⟩ = some (.slice none 0 0) := by simp [World.cell?, g4]
    have f0 : w4.frozen? ⟨w.heap.size + 1, 0, none⟩ = false := by simp [World.frozen?, g4]
    have f1 : w4.frozen? ⟨w.heap.size + 1, 1, none⟩ = false := by simp [World.frozen?, g4]
    obtain ⟨w5, hw5⟩ : ∃ w5, (w4.setCell ⟨w.heap.size + 1, 0, none⟩ (.string nm)).setCell ⟨w.heap.size + 1, 1, none⟩ (.slice A4 ws.length c4) = w5 := ⟨_, rfl⟩
    have m0 : w5.cell? ⟨w.heap.size + 1, 0, none⟩ = some (.string nm) := by rw [← hw5]; simp [World.cell?, World.setCell, Array.getElem?_modify, g4]
    have m1 : w5.cell? ⟨w.heap.size + 1, 1, none⟩ = some (.slice A4 ws.length c4) := by rw [← hw5]; simp [World.cell?, World.setCell, Array.getElem?_modify, g4]
    have hB5 : Below w.heap.size w w5 := by rw [← hw5]; exact (hB4.setCell (Nat.le_succ _) _).setCell (Nat.le_succ _) _
    unfold rf
    have hlt2 : w.heap.size + 2 ≤ w2.heap.size := by omega
    clear hb4 hb2 hb1 hbare hkind htw g0 hz hs1 hs2
    have hown5 : OwnB w5 (w2.alloc (.cells #[.string nm, .slice A2 ws.length c2] 60)).heap.size (.slice A4 ws.length c4) ws := by
      have hsz : (w2.alloc (.cells #[.string nm, .slice A2 ws.length c2] 60)).heap.size = w2.heap.size + 1 := by simp
      rw [hsz] at hown4 ⊢
      refine ⟨hown4.1, ?_⟩
      rcases hown4.2 with h | ⟨g, cap, cur, q1, q2, q3, q4⟩
      · exact .inl h
      · refine .inr ⟨g, cap, cur, q1, q2, ?_, q4⟩
        rw [← hw5]
        simp only [World.setCell, Array.getElem?_modify]
        rw [if_neg (by omega), if_neg (by omega)]
        exact q3
    go_wp2
    exact bodyPost_ret (v := .tuple #[.agg #[.string nm, .slice A4 ws.length c4], .bool true]) (by simp [results, Try.results10, go_sem, m0, m1]) rfl ⟨A4, c4, rfl, own_base hown5 (by simp; omega), hB5⟩
  · exact absurd rfl h
def ItemN (w : World) (e : Ending) (w' : World) : Prop := e = .returned (.tuple #[.agg #[.string ⟨#[]⟩, .slice none 0 0], .bool false]) ∧ Below w.heap.size w w'
set_option maxHeartbeats 4000000 in
theorem item_no (nm : ByteArray) (A : Option Addr) (n c : Nat) (xs : List UInt8) (hbe : (bare xs).head? ≠ some 2) (hxn : xs.length = n) (w : World) {B : Nat} (hx : Rd w B A (bv xs)) (hB : B ≤ w.heap.size) (hc : n ≤ c) (hm : c ≤ maxLen) (hn : n ≤ 140737488351232) :
    Calls Try.prog 10 #[.agg #[.string nm, .slice A n c]] w (ItemN w) := by
  have hb0 : Below w.heap.size w ((w.alloc (.cells #[.string nm, .slice A n c] 24)).alloc (.cells #[.string ⟨#[]⟩, .slice none 0 0] 24)) := ((Below.refl _ _).alloc (Nat.le_refl _) _).alloc (by simp) _
  have hbare := bare_any nm A c xs ((w.alloc (.cells #[.string nm, .slice A n c] 24)).alloc (.cells #[.string ⟨#[]⟩, .slice none 0 0] 24)) (B := B) (Rd.via hb0 hx hB) (Nat.le_trans hB hb0.size) (by omega) hm (by omega)
  rw [hxn] at hbare
  unfold rf at hbare
  generalize bare xs = ws at *
  go_enter Try.func10, Try.ntmps10
  go_wp2_with fail
  refine hbare.mono ?_
  rintro e w1 ⟨A1, c1, rfl, hown, hb1⟩
  have hB1 : Below w.heap.size w w1 := hb0.trans (hb1.mono hb0.size)
  obtain ⟨⟨k0, k1, k2, k3⟩, g0, g1, g2, g3⟩ := boxes hb1
  have hz : w.heap.size + 1 < w1.heap.size := by have := hb1.size; simp at this; omega
  unfold rf
  go_wp2_with fail
  have hkind := kindOf_any nm A1 c1 ws w1 (B := w1.heap.size) (Rd.of_own hown) (Nat.le_refl _) (own_len hown) (own_cap hown)
  unfold rf at hkind
  refine hkind.mono ?_
  rintro e w2 ⟨v2, rfl, hv2, hb2⟩
  have hb12 := hb1.trans (hb2.mono hb1.size)
  clear k0 k1 k2 k3 g0 g1 g2 g3
  obtain ⟨⟨k0, k1, k2, k3⟩, g0, g1, g2, g3⟩ := boxes hb12
  have hB2 : Below w.heap.size w w2 := hB1.trans (hb2.mono hB1.size)
  have hz2 : w.heap.size + 1 < w2.heap.size := Nat.lt_of_lt_of_le hz hb2.size
  have key : ∃ T x, v2 = .iface T x ∧ (∀ w : World, (Instr.typeAssert (.iface T x) 55 60 true).run Try.prog w = .ok (.tuple #[.agg #[.string ⟨#[]⟩, .slice none 0 0], .bool false]) w) := by
    rcases ws with _ | ⟨a, r⟩
    · exact ⟨_, _, hv2, as_list_named _⟩
    · rcases hv2 with ⟨_, A', c', rfl, _⟩ | ⟨rfl, _⟩ | ⟨_, _, rfl⟩
      · exact ⟨_, _, rfl, as_list_non _⟩
      · exact absurd rfl hbe
      · exact ⟨_, _, rfl, as_list_other _⟩
  obtain ⟨T, x, rfl, has⟩ := key
  clear hv2 hbe hown hkind hbare
  go_wp2_with fail
  refine bodyPost_ret (v := .tuple #[.agg #[.string ⟨#[]⟩, .slice none 0 0], .bool false]) (by simp [results, Try.results10, go_sem, k2, k3, hz2]) rfl ⟨rfl, ?_⟩
  repeat (first | exact hB2 | refine Below.alloc ?_ (by first | omega | (simp; omega)) _ | refine Below.setCell ?_ (by simp) _)
theorem hd_ne' {ws : List UInt8} {x : UInt8} (h : wr1 ws x = false) : ws.head? ≠ some x := of_decide_eq_false h
theorem hd_eq' {ws : List UInt8} {x : UInt8} (h : wr1 ws x = true) : ∃ r, ws = x :: r := by
  unfold wr1 at h
  rw [decide_eq_true_iff] at h
  rcases ws with _ | ⟨a, r⟩
  · simp at h
  · simp at h; exact ⟨r, by rw [h]⟩
theorem bare_len (xs : List UInt8) : (bare xs).length ≤ xs.length := by
  rcases xs with _ | ⟨a, t⟩
  · exact Nat.le_refl _
  · show (if a = 1 then t else a :: t).length ≤ _
    split <;> simp
theorem item_any (nm : ByteArray) (A : Option Addr) (n c : Nat) (xs : List UInt8) (hxn : xs.length = n) (w : World) {B : Nat} (hx : Rd w B A (bv xs)) (hB : B ≤ w.heap.size) (hc : n ≤ c) (hm : c ≤ maxLen) (hn : n ≤ 140737488351231) :
    Calls Try.prog 10 #[.agg #[.string nm, .slice A n c]] w fun e w' => (∃ r, bare xs = 2 :: r ∧ ItemY nm r w e w') ∨ ((bare xs).head? ≠ some 2 ∧ ItemN w e w') := by
  by_cases h : (bare xs).head? = some 2
  · obtain ⟨r, hr⟩ : ∃ r, bare xs = 2 :: r := by
      rcases hb : bare xs with _ | ⟨a, r⟩
      · rw [hb] at h; simp at h
      · rw [hb] at h; simp at h; exact ⟨r, by rw [h]⟩
    have hl : r.length + 1 ≤ n + 1 := by
      have := bare_len xs
      rw [hr] at this
      simp at this
      omega
    exact (item_yes nm A n c xs r hr hxn w hx hB hc hm (by omega) (by omega)).mono fun _ _ q => .inl ⟨r, hr, q⟩
  · exact (item_no nm A n c xs h hxn w hx hB hc hm (by omega)).mono fun _ _ q => .inr ⟨h, q⟩
set_option maxHeartbeats 4000000 in
/-- the reference's Item -/
theorem item_ref (nm : ByteArray) (A : Option Addr) (n c : Nat) (xs : List UInt8) (hxn : xs.length = n) (w : World) {B : Nat} (hx : Rd w B A (bv xs)) (hB : B ≤ w.heap.size) (hc : n ≤ c) (hm : c ≤ maxLen) (hn : n ≤ 140737488351231) :
    Calls Try.prog 21 #[.agg #[.string nm, .slice A n c]] w fun e w' => (∃ r, bare xs = 2 :: r ∧ ItemY nm r w e w') ∨ ((bare xs).head? ≠ some 2 ∧ ItemN w e w') := by
  have hb0 : Below w.heap.size w ((w.alloc (.cells #[.string nm, .slice A n c] 24)).alloc (.cells #[.string ⟨#[]⟩, .slice none 0 0] 24)) := ((Below.refl _ _).alloc (Nat.le_refl _) _).alloc (by simp) _
  have hbare := bare_ref nm A c xs ((w.alloc (.cells #[.string nm, .slice A n c] 24)).alloc (.cells #[.string ⟨#[]⟩, .slice none 0 0] 24)) (B := B) (Rd.via hb0 hx hB) (Nat.le_trans hB hb0.size) (by omega) hm (by omega)
  have hlb : (bare xs).length ≤ n := by
    rw [← hxn]
    exact bare_len xs
  rw [hxn] at hbare
  generalize bare xs = ws at *
  obtain ⟨k, hk⟩ : ∃ k, ws.length = k := ⟨_, rfl⟩
  go_enter Try.func21, Try.ntmps21
  go_wp2_with fail
  refine hbare.mono ?_
  rintro e w1 ⟨A1, c1, rfl, hown, hb1⟩
  rw [hk] at hown ⊢
  have hB1 : Below w.heap.size w w1 := hb0.trans (hb1.mono hb0.size)
  obtain ⟨⟨k0, k1, k2, k3⟩, g0, g1, g2, g3⟩ := boxes hb1
  have hz : w.heap.size + 1 < w1.heap.size := by have := hb1.size; simp at this; omega
  go_wp2_with fail
  obtain ⟨W1, hW1⟩ : ∃ W, (w1.setCell ⟨w.heap.size, 0, none⟩ (.string nm)).setCell ⟨w.heap.size, 1, none⟩ (.slice A1 k c1) = W := ⟨_, rfl⟩
  rw [hW1]
  have j0 : W1.cell? ⟨w.heap.size, 0, none⟩ = some (.string nm) := by rw [← hW1, World.cell?_setCell_other _ _ _ _ (by simp)]; exact World.cell?_setCell_same _ _ _ k0
  have j1 : W1.cell? ⟨w.heap.size, 1, none⟩ = some (.slice A1 k c1) := by rw [← hW1]; exact World.cell?_setCell_same _ _ _ ((World.cell?_setCell_other _ _ _ _ (by simp)).trans k1)
  have j2 : W1.cell? ⟨w.heap.size + 1, 0, none⟩ = some (.string ⟨#[]⟩) := by rw [← hW1, World.cell?_setCell_other _ _ _ _ (by simp), World.cell?_setCell_other _ _ _ _ (by simp)]; exact k2
  have j3 : W1.cell? ⟨w.heap.size + 1, 1, none⟩ = some (.slice none 0 0) := by rw [← hW1, World.cell?_setCell_other _ _ _ _ (by simp), World.cell?_setCell_other _ _ _ _ (by simp)]; exact k3
  have l2 : W1.frozen? ⟨w.heap.size + 1, 0, none⟩ = false := by rw [← hW1, World.frozen?_setCell, World.frozen?_setCell]; exact g2
  have l3 : W1.frozen? ⟨w.heap.size + 1, 1, none⟩ = false := by rw [← hW1, World.frozen?_setCell, World.frozen?_setCell]; exact g3
  have hBW : Below w.heap.size w W1 := by rw [← hW1]; exact (hB1.setCell (by simp) _).setCell (by simp) _
  have hzW : w.heap.size + 1 < W1.heap.size := by rw [← hW1]; simpa using hz
  have hownW : OwnB W1 (w.heap.size + 2) (.slice A1 k c1) ws := by
    rw [← hW1]
    unfold OwnB at hown ⊢
    rw [← hk] at hown ⊢
    exact own_base (ownsRow_setCell_below (ownsRow_setCell_below hown (by first | (simp; done) | (simp; omega)) _) (by first | (simp; done) | (simp; omega)) _) (by first | (simp; done) | (simp; omega))
  clear hW1 k0 k1 k2 k3 g0 g1 g2 g3 hown hb1 hbare
  have hrd : Rd W1 W1.heap.size A1 (bv ws) := by rw [← hk] at hownW; exact Rd.of_own hownW
  have hlen : k ≤ c1 := by rw [← hk] at hownW ⊢; exact own_len hownW
  have hcap : c1 ≤ maxLen := by rw [← hk] at hownW; exact own_cap hownW
  have hwr := wrapped_ref nm A1 c1 ws 2 W1 hrd (Nat.le_refl _)
  rw [hk] at hwr
  rw [show (((2 : UInt8).toNat : Nat) : Int) = 2 from rfl] at hwr
  have hbk : ∀ W, Below W1.heap.size W1 W → (W.cell? ⟨w.heap.size, 0, none⟩ = some (.string nm) ∧ W.cell? ⟨w.heap.size, 1, none⟩ = some (.slice A1 k c1)) ∧ (W.cell? ⟨w.heap.size + 1, 0, none⟩ = some (.string ⟨#[]⟩) ∧ W.cell? ⟨w.heap.size + 1, 1, none⟩ = some (.slice none 0 0)) ∧ W.frozen? ⟨w.heap.size + 1, 0, none⟩ = false ∧ W.frozen? ⟨w.heap.size + 1, 1, none⟩ = false := fun W h =>
    ⟨⟨(h.cell (p := ⟨w.heap.size, 0, none⟩) (by show w.heap.size < _; omega)).trans j0, (h.cell (p := ⟨w.heap.size, 1, none⟩) (by show w.heap.size < _; omega)).trans j1⟩, ⟨(h.cell (p := ⟨w.heap.size + 1, 0, none⟩) hzW).trans j2, (h.cell (p := ⟨w.heap.size + 1, 1, none⟩) hzW).trans j3⟩, (h.frozen (p := ⟨w.heap.size + 1, 0, none⟩) hzW).trans l2, (h.frozen (p := ⟨w.heap.size + 1, 1, none⟩) hzW).trans l3⟩
  have HK := Lib.hid hbk
  clear hbk j0 j1 j2 j3 l2 l3
  cases h2 : wr1 ws 2
  · rw [h2] at hwr
    have hne := hd_ne' h2
    refine hwr.mono ?_
    rintro e w2 ⟨rfl, hb2⟩
    obtain ⟨⟨k0, k1⟩, ⟨k2, k3⟩, g2, g3⟩ := HK.out _ hb2
    have hB2 : Below w.heap.size w w2 := bt2 hBW hBW.size hb2
    have hz2 : w.heap.size + 1 < w2.heap.size := Nat.lt_of_lt_of_le hzW hb2.size
    clear hwr hownW hrd h2
    have HN := Lib.hid hne
    clear hne
    go_wp2_with fail
    refine bodyPost_ret (v := .tuple #[.agg #[.string ⟨#[]⟩, .slice none 0 0], .bool false]) (by simp [results, Try.results21, go_sem, k2, k3, hz2]) rfl (.inr ⟨HN.out, rfl, ?_⟩)
    exact (hB2.setCell (by simp) _).setCell (by simp) _
  · rw [h2] at hwr
    obtain ⟨r, rfl⟩ := hd_eq' h2
    have hkr : r.length + 1 = k := by simpa using hk
    have hin := fun W (h : Below W1.heap.size W1 W) => in_ref nm A1 c1 2 r W (Rd.via h hrd (Nat.le_refl _)) (h.size) (by omega) hcap
    rw [hkr] at hin
    refine hwr.mono ?_
    rintro e w2 ⟨rfl, hb2⟩
    obtain ⟨⟨k0, k1⟩, ⟨k2, k3⟩, g2, g3⟩ := HK.out _ hb2
    clear hwr h2
    go_wp2_with fail
    refine (hin _ hb2).mono ?_
    rintro e w3 ⟨A3, c3, rfl, q1, q2, q3, hb3⟩
    have hb13 := bt2 hb2 hb2.size hb3
    clear k0 k1 k2 k3 g2 g3 hin
    obtain ⟨⟨k0, k1⟩, ⟨k2, k3⟩, g2, g3⟩ := HK.out _ hb13
    go_wp2_with fail
    refine (twin_ref nm A3 c3 r w3 q3 hb13.size (by omega)).mono ?_
    rintro e w4 ⟨A4, c4, rfl, hown4, hb4⟩
    have hb14 := bt2 hb13 hb13.size hb4
    clear k0 k1 k2 k3 g2 g3
    obtain ⟨⟨k0, k1⟩, ⟨k2, k3⟩, g2, g3⟩ := HK.out _ hb14
    have hB4 : Below w.heap.size w w4 := bt2 hBW hBW.size hb14
    have hz4 : w.heap.size + 1 < w3.heap.size := Nat.lt_of_lt_of_le hzW hb13.size
    go_wp2_with fail
    refine bodyPost_ret (v := .tuple #[.agg #[.string nm, .slice A4 r.length c4], .bool true]) (by simp [results, Try.results21, go_sem, k2, k3, hz4]) rfl (.inl ⟨r, rfl, A4, c4, rfl, ?_, (hB4.setCell (by simp) _).setCell (by simp) _⟩)
    unfold OwnB at hown4 ⊢
    exact own_base (ownsRow_setCell_below (ownsRow_setCell_below hown4 (by omega) _) (by omega) _) (by omega)
end Go.Proofs.Ytgoecnhkmfnenaa
