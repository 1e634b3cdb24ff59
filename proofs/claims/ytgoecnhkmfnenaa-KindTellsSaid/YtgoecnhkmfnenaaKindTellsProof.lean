/- KindTells: what names are, and which type fits which, is as is said: for any definitions, name, two types and a variable the call returns true, and what came in reads as before. Conditions: none. -/
import Derived.Test.YtgoecnhkmfnenaaRows
import Derived.Test.YtgoecnhkmfnenaaRefK5
import Derived.Test.YtgoecnhkmfnenaaItem3
import Derived.Deep.Light
import Derived.Test.YtgoecnhkmfnenaaOpenK
import Derived.ProofKit
namespace Go.Proofs.Ytgoecnhkmfnenaa.kindTells
open Go.RowKit
/-- the three boxes of what came in, and what they lead to, seen from a later world -/
structure In3 (w W : World) (na nb vn tn : ByteArray) (A A2 A3 D GA : Option Addr) (n c m c2 k c3 dl dc gl gc : Nat) (vh : Bool) : Prop where
  a0 : W.cell? ⟨w.heap.size, 0, none⟩ = some (.string na)
  a1 : W.cell? ⟨w.heap.size, 1, none⟩ = some (.slice A n c)
  b0 : W.cell? ⟨w.heap.size + 1, 0, none⟩ = some (.string nb)
  b1 : W.cell? ⟨w.heap.size + 1, 1, none⟩ = some (.slice A2 m c2)
  v0 : W.cell? ⟨w.heap.size + 1 + 1, 0, none⟩ = some (.string vn)
  v1 : W.cell? ⟨w.heap.size + 1 + 1, 1, none⟩ = some (.string tn)
  v2 : W.cell? ⟨w.heap.size + 1 + 1, 2, none⟩ = some (.slice A3 k c3)
  v3 : W.cell? ⟨w.heap.size + 1 + 1, 3, none⟩ = some (.bool vh)
  v4 : W.cell? ⟨w.heap.size + 1 + 1, 4, none⟩ = some (.slice D dl dc)
  v5 : W.cell? ⟨w.heap.size + 1 + 1, 5, none⟩ = some (.slice GA gl gc)
section
variable {w W W' : World} {na nb vn tn : ByteArray} {A A2 A3 D GA : Option Addr} {n c m c2 k c3 dl dc gl gc : Nat} {vh : Bool}
theorem In3.keep (h : In3 w W na nb vn tn A A2 A3 D GA n c m c2 k c3 dl dc gl gc vh) (hb : Below W.heap.size W W') (hz : w.heap.size + 2 < W.heap.size) : In3 w W' na nb vn tn A A2 A3 D GA n c m c2 k c3 dl dc gl gc vh := by
  have q : ∀ b o, b < W.heap.size → W'.cell? ⟨b, o, none⟩ = W.cell? ⟨b, o, none⟩ := fun b o h => hb.cell (p := ⟨b, o, none⟩) h
  exact ⟨(q _ _ (by omega)).trans h.a0, (q _ _ (by omega)).trans h.a1, (q _ _ (by omega)).trans h.b0, (q _ _ (by omega)).trans h.b1, (q _ _ (by omega)).trans h.v0, (q _ _ (by omega)).trans h.v1, (q _ _ (by omega)).trans h.v2, (q _ _ (by omega)).trans h.v3, (q _ _ (by omega)).trans h.v4, (q _ _ (by omega)).trans h.v5⟩
theorem In3.new : In3 w (((w.alloc (.cells #[.string na, .slice A n c] 24)).alloc (.cells #[.string nb, .slice A2 m c2] 24)).alloc (.cells #[.string vn, .string tn, .slice A3 k c3, .bool vh, .slice D dl dc, .slice GA gl gc] 33)) na nb vn tn A A2 A3 D GA n c m c2 k c3 dl dc gl gc vh := by
  constructor
  iterate 2 (rw [World.cell?_alloc_past _ _ _ (by simp; omega), World.cell?_alloc_past _ _ _ (by simp), World.cell?_alloc_at _ _ _ _ rfl]; rfl)
  iterate 2 (rw [World.cell?_alloc_past _ _ _ (by simp), World.cell?_alloc_at _ _ _ _ (by simp)]; rfl)
  iterate 6 (rw [World.cell?_alloc_at _ _ _ _ (by simp)]; rfl)
end
theorem gfar {w w' : World} {g b o : Nat} (h : w.grownBy w' (some g)) (hb : b < w.heap.size) (hne : b ≠ g) : w'.cell? ⟨b, o, none⟩ = w.cell? ⟨b, o, none⟩ :=
  World.cell?_of_block (a := ⟨b, o, none⟩) (h.block b hb (by simp; exact hne))
theorem gset (w : World) (g k : Nat) (v : Value) : w.grownBy (w.setCell ⟨g, k, none⟩ v) (some g) :=
  ⟨rfl, rfl, rfl, by simp, fun i _ hne => heap_setCell_other w ⟨g, k, none⟩ i v (fun e => hne (by simp [e]))⟩
theorem grefl (w : World) (r : Option Nat) : w.grownBy w r := ⟨rfl, rfl, rfl, Nat.le_refl _, fun _ _ _ => rfl⟩
theorem gtrans {a b c : World} {r : Option Nat} (h : a.grownBy b r) (k : b.grownBy c r) : a.grownBy c r :=
  ⟨k.os.trans h.os, k.tape.trans h.tape, k.output.trans h.output, Nat.le_trans h.size k.size, fun i hi hne => (k.block i (Nat.lt_of_lt_of_le hi h.size) hne).trans (h.block i hi hne)⟩
/-- a row that may be written -/
def RowF (W : World) (g n : Nat) : Prop := ∀ j, j < n → (∃ v, W.cell? ⟨g, j, none⟩ = some v) ∧ W.frozen? ⟨g, j, none⟩ = false
theorem RowF.set {W : World} {g n i : Nat} {u : Value} (h : RowF W g n) (hi : i < n) : RowF (W.setCell ⟨g, i, none⟩ u) g n := by
  intro j hj
  refine ⟨?_, by rw [World.frozen?_setCell]; exact (h j hj).2⟩
  by_cases e : j = i
  · subst e
    obtain ⟨v, hv⟩ := (h j hj).1
    exact ⟨u, World.cell?_setCell_same _ _ _ hv⟩
  · obtain ⟨v, hv⟩ := (h j hj).1
    exact ⟨v, by rw [World.cell?_setCell_other _ _ _ _ (by first | (simp; done) | (simp; omega))]; exact hv⟩
theorem RowF.below {W W' : World} {g n B : Nat} (h : RowF W g n) (hb : Below B W W') (hg : g < B) : RowF W' g n := fun j hj => by
  obtain ⟨⟨v, hv⟩, hf⟩ := h j hj
  exact ⟨⟨v, (hb.cell (p := ⟨g, j, none⟩) hg).trans hv⟩, (hb.frozen (p := ⟨g, j, none⟩) hg).trans hf⟩
theorem RowF.far {W W' : World} {g g' n : Nat} (h : RowF W g n) (hg : W.grownBy W' (some g')) (hl : g < W.heap.size) (hne : g ≠ g') : RowF W' g n := fun j hj => by
  obtain ⟨⟨v, hv⟩, hf⟩ := h j hj
  have hb := hg.block g hl (by simp; exact hne)
  exact ⟨⟨v, (World.cell?_of_block (a := ⟨g, j, none⟩) hb).trans hv⟩, (World.frozen?_of_block (a := ⟨g, j, none⟩) hb).trans hf⟩
theorem rowF_of {W : World} {base n c : Nat} {e : TypeId} {A : Option Addr} {xs : List Value} (h : W.ownsRow base e 1 (.slice A n c) n xs) : n = 0 ∨ ∃ g, A = some ⟨g, 0, none⟩ ∧ base ≤ g ∧ g < W.heap.size ∧ RowF W g n := by
  rcases h.2 with ⟨h3, h4⟩ | ⟨g, cap, cur, h3, hg, hh, hn, hc, hs, ht⟩
  · exact .inl h4
  · simp only [Value.slice.injEq] at h3
    obtain ⟨rfl, _, rfl⟩ := h3
    refine .inr ⟨g, rfl, hg, ?_, fun j hj => ?_⟩
    · rcases Nat.lt_or_ge g W.heap.size with q | q
      · exact q
      · rw [Array.getElem?_eq_none q] at hh
        cases hh
    · have hj2 : j < cur.size := by omega
      refine ⟨⟨cur[j], ?_⟩, ?_⟩
      · simp [World.cell?, hh, hj2]
      · simp [World.frozen?, hh]
set_option maxHeartbeats 16000000 in
set_option maxRecDepth 100000 in
theorem walk (dA : Option Addr) (dn dcp : Nat) (name : ByteArray) (ds : List (UInt8 × ByteArray)) (hdn : ds.length = dn) (na nb vn tn : ByteArray) (A A2 A3 D GA : Option Addr) (n c m c2 k c3 dl dc gl gc : Nat) (fa fb fv : List UInt8) (hfn : fa.length = n) (hfm : fb.length = m) (hfk : fv.length = k) (vh nul has : Bool) (w : World) {B : Nat} (hB : B ≤ w.heap.size)
    (hds : Sl B 6 (DefE w B) (.slice dA dn dcp)) (hdr : DRd w B dA ds) (ha : Rd w B A (bv fa)) (hb : Rd w B A2 (bv fb)) (hv : Rd w B A3 (bv fv)) (hdf : Dflt w B D dl nul) (hdc : Sl B 5 (CellE w) (.slice D dl dc))
    (hc : n ≤ c) (hm : c ≤ maxLen) (hc2 : m ≤ c2) (hm2 : c2 ≤ maxLen) (hc3 : k ≤ c3) (hm3 : c3 ≤ maxLen) :
    Calls Try.prog 7 #[.slice dA dn dcp, .string name, .agg #[.string na, .slice A n c], .agg #[.string nb, .slice A2 m c2], .agg #[.string vn, .string tn, .slice A3 k c3, .bool vh, .slice D dl dc, .slice GA gl gc], .bool has] w fun e w' => e = .returned (.bool true) ∧ Below w.heap.size w w' := by
  obtain ⟨W0, hW0⟩ : ∃ W0, (((w.alloc (.cells #[.string na, .slice A n c] 24)).alloc (.cells #[.string nb, .slice A2 m c2] 24)).alloc (.cells #[.string vn, .string tn, .slice A3 k c3, .bool vh, .slice D dl dc, .slice GA gl gc] 33)) = W0 := ⟨_, rfl⟩
  have hb0 : Below w.heap.size w W0 := by rw [← hW0]; exact (((Below.refl _ _).alloc (Nat.le_refl _) _).alloc (by simp) _).alloc (by simp; omega) _
  have hI0 : In3 w W0 na nb vn tn A A2 A3 D GA n c m c2 k c3 dl dc gl gc vh := by rw [← hW0]; exact In3.new
  have hz0 : w.heap.size + 2 < W0.heap.size := by rw [← hW0]; simp
  have hB0 := Nat.le_trans hB hb0.size
  have hkp : ∀ W, Below W0.heap.size W0 W → Kp w W B := fun W h => Kp.of_below (bt hb0 hb0.size h) hB
  have hI : ∀ W, Below W0.heap.size W0 W → In3 w W na nb vn tn A A2 A3 D GA n c m c2 k c3 dl dc gl gc vh := fun W h => hI0.keep h hz0
  have hgr : ∀ W, Below W0.heap.size W0 W → Calls Try.prog 17 #[.slice dA dn dcp] W fun e w' => ∃ b : Bool, e = .returned (.bool b) ∧ (b = false → dn ≤ 20) ∧ Below W0.heap.size W0 w' := fun W h => by
    refine (great_any dA dn dcp W (hds.imp (Nat.le_refl _) fun _ _ hb x => DefE.keep (hkp W h) (Nat.le_refl _) hb x) (Nat.le_trans hB0 h.size)).mono ?_
    rintro e w' ⟨b, q1, q2, q3⟩
    exact ⟨b, q1, q2, bt h h.size q3⟩
  have hgc : ∀ W, Below W0.heap.size W0 W → Calls Try.prog 18 #[.slice D dl dc, .int .i64 100] W (Ans W0) := fun W h =>
    (greatC _ 100 (by omega) W (hdc.imp (Nat.le_refl _) fun _ _ hb x => CellE.keep (hkp W h) hb x)).mono fun _ _ q => Det.ans h q
  have hfin : ∀ W, Below W0.heap.size W0 W → Below w.heap.size w W := fun W h => bt hb0 hb0.size h
  have HI := Lib.hid hI
  have HF := Lib.hid hfin
  clear hI0 hI hfin
  obtain ⟨a0, a1, b0, b1, v0, v1, v2, v3, v4, v5⟩ := HI.out _ (Below.refl _ _)
  go_enter Try.func7, Try.ntmps7
  go_wp2_with fail
  clear hW0 a0 a1 b0 b1 v0 v1 v2 v3 v4 v5
  refine (hgr _ (Below.refl _ _)).mono ?_
  rintro e w1 ⟨g1, rfl, hd20, hb1⟩
  obtain ⟨a0, a1, b0, b1, v0, v1, v2, v3, v4, v5⟩ := HI.out _ hb1
  cases g1
  case true =>
    go_wp2_with fail
    go_ret
    exact ⟨rfl, HF.out _ hb1⟩
  case false =>
    have hd20' := hd20 rfl
    clear hd20
    go_wp2_with fail
    all_goals first
      | (go_ret; exact ⟨rfl, HF.out _ hb1⟩)
      | skip
    refine (hgc _ hb1).mono ?_
    rintro e w2 ⟨g2, rfl, hb2⟩
    clear a0 a1 b0 b1 v0 v1 v2 v3 v4 v5
    obtain ⟨a0, a1, b0, b1, v0, v1, v2, v3, v4, v5⟩ := HI.out _ hb2
    cases g2
    case true =>
      go_wp2_with fail
      go_ret
      exact ⟨rfl, HF.out _ hb2⟩
    case false =>
      go_wp2_with fail
      all_goals first
        | (go_ret; exact ⟨rfl, HF.out _ hb2⟩)
        | skip
      have h40 : n ≤ 40 ∧ m ≤ 40 ∧ k ≤ 40 := ⟨by omega, by omega, by omega⟩
      obtain ⟨n40, m40, k40⟩ := h40
      have hw2 := HF.out _ hb2
      have htw : Calls Try.prog 19 #[.agg #[.string na, .slice A n c]] w2 (fun e w' => ∃ A' c', e = .returned (.agg #[.string na, .slice A' n c']) ∧ OwnB w' w2.heap.size (.slice A' n c') fa ∧ Below w2.heap.size w2 w') := by
        have h9 := twin_ref na A c fa w2 (Rd.via hw2 ha hB) (Nat.le_trans hB hw2.size) (by omega)
        unfold TwinX at h9
        rw [hfn] at h9
        exact h9
      refine htw.mono ?_
      rintro e w3 ⟨A', c', rfl, hown, hb3⟩
      have hb03 := bt hb2 hb2.size hb3
      clear a0 a1 b0 b1 v0 v1 v2 v3 v4 v5 htw
      obtain ⟨W3, hW3⟩ : ∃ W, w3.alloc (.cells #[.string na, .slice A' n c'] 24) = W := ⟨_, rfl⟩
      have hb3' : Below w3.heap.size w3 W3 := by rw [← hW3]; exact bAl _ _
      have hz3 : w3.heap.size < W3.heap.size := by rw [← hW3]; simp
      have o0 : W3.cell? ⟨w3.heap.size, 0, none⟩ = some (.string na) := by rw [← hW3, World.cell?_alloc_at _ _ _ _ rfl]; rfl
      have o1 : W3.cell? ⟨w3.heap.size, 1, none⟩ = some (.slice A' n c') := by rw [← hW3, World.cell?_alloc_at _ _ _ _ rfl]; rfl
      have hbW3 : Below W0.heap.size W0 W3 := bt hb03 hb03.size hb3'
      have hwW3 := HF.out _ hbW3
      have hown0 : w3.ownsRow w2.heap.size 5 1 (.slice A' n c') n (bv fa) := by unfold OwnB at hown; rw [hfn] at hown; exact hown
      have hro3 : Rd w3 w3.heap.size A' (bv fa) := Rd.of_own hown0
      have hro : Rd W3 W3.heap.size A' (bv fa) := (Rd.via hb3' hro3 (Nat.le_refl _)).mono (Nat.le_of_lt hz3)
      have hlc : n ≤ c' := own_len hown0
      have hcc : c' ≤ maxLen := own_cap hown0
      have hO : ∀ W, Below W3.heap.size W3 W → W.cell? ⟨w3.heap.size, 0, none⟩ = some (.string na) ∧ W.cell? ⟨w3.heap.size, 1, none⟩ = some (.slice A' n c') := fun W h => ⟨(h.cell (p := ⟨w3.heap.size, 0, none⟩) hz3).trans o0, (h.cell (p := ⟨w3.heap.size, 1, none⟩) hz3).trans o1⟩
      have HO := Lib.hid hO
      have hcl1 := class_any dA dcp ds name W3 (B := B) (DRd.via hwW3 hdr hB) (Nat.le_trans hB hwW3.size) (by omega)
      rw [hdn] at hcl1
      have hcl2 : ∀ W, Below W3.heap.size W3 W → _ := fun W (h : Below W3.heap.size W3 W) => class_ref dA dcp ds name W (B := B) (DRd.via (bt hwW3 hwW3.size h) hdr hB) (by omega)
      rw [hdn] at hcl2
      generalize (clsV ds name).1 = C1 at *
      generalize (clsV ds name).2 = C2 at *
      obtain ⟨a0, a1, b0, b1, v0, v1, v2, v3, v4, v5⟩ := HI.out _ hb03
      clear hO o0 o1
      go_wp2_with fail
      clear a0 a1 b0 b1 v0 v1 v2 v3 v4 v5 hW3
      refine hcl1.mono ?_
      rintro e w4 ⟨rfl, hb4⟩
      go_wp2_with fail
      refine (hcl2 _ hb4).mono ?_
      rintro e w4' ⟨rfl, rfl⟩
      obtain ⟨o0, o1⟩ := HO.out _ hb4
      go_wp2_with fail
      have hS9 : ∃ S, itemS na fa = S := ⟨_, rfl⟩
      obtain ⟨⟨sn, sr, sb⟩, hS9⟩ := hS9
      have hsl := itemS_len na fa
      have hit := item_u na A' n c' fa hfn w4 (B := W3.heap.size) (Rd.via hb4 hro (Nat.le_refl _)) hb4.size hlc hcc (by omega)
      rw [hS9] at hit hsl
      rw [hfn] at hsl
      refine hit.mono ?_
      rintro e w5 ⟨A5, c5, rfl, ho5, hb5⟩
      dsimp only at ho5 hsl ⊢
      obtain ⟨sl, hsl2⟩ : ∃ sl, sr.length = sl := ⟨_, rfl⟩
      rw [hsl2] at ho5 hsl ⊢
      have hb35 := bt hb4 hb4.size hb5
      have hb05 := bt hbW3 hbW3.size hb35
      clear o0 o1 hit hcl1
      obtain ⟨W5, hW5⟩ : ∃ W, w5.alloc (.cells #[.string sn, .slice A5 sl c5] 24) = W := ⟨_, rfl⟩
      have hb5' : Below w5.heap.size w5 W5 := by rw [← hW5]; exact bAl _ _
      have hz5 : w5.heap.size < W5.heap.size := by rw [← hW5]; simp
      have x0 : W5.cell? ⟨w5.heap.size, 0, none⟩ = some (.string sn) := by rw [← hW5, World.cell?_alloc_at _ _ _ _ rfl]; rfl
      have x1 : W5.cell? ⟨w5.heap.size, 1, none⟩ = some (.slice A5 sl c5) := by rw [← hW5, World.cell?_alloc_at _ _ _ _ rfl]; rfl
      have hbW5 : Below W0.heap.size W0 W5 := bt hb05 hb05.size hb5'
      have hb35' : Below W3.heap.size W3 W5 := bt hb35 hb35.size hb5'
      have hwW5 := HF.out _ hbW5
      have ho50 : w5.ownsRow w4.heap.size 5 1 (.slice A5 sl c5) sl (bv sr) := by unfold OwnB at ho5; rw [hsl2] at ho5; exact ho5
      have hrx : Rd W5 w5.heap.size A5 (bv sr) := Rd.via hb5' (Rd.of_own ho50) (Nat.le_refl _)
      have hX : ∀ W, Below W5.heap.size W5 W → W.cell? ⟨w5.heap.size, 0, none⟩ = some (.string sn) ∧ W.cell? ⟨w5.heap.size, 1, none⟩ = some (.slice A5 sl c5) := fun W h => ⟨(h.cell (p := ⟨w5.heap.size, 0, none⟩) hz5).trans x0, (h.cell (p := ⟨w5.heap.size, 1, none⟩) hz5).trans x1⟩
      have HX := Lib.hid hX
      have hir := item_ru na A n c fa hfn W5 (B := B) (Rd.via hwW5 ha hB) (Nat.le_trans hB hwW5.size) hc hm (by omega)
      rw [hS9] at hir
      obtain ⟨a0, a1, b0, b1, v0, v1, v2, v3, v4, v5⟩ := HI.out _ hbW5
      clear hX x0 x1
      go_wp2_with fail
      clear a0 a1 b0 b1 v0 v1 v2 v3 v4 v5 hW5
      refine hir.mono ?_
      rintro e w6 ⟨A6, c6, rfl, ho6, hb6⟩
      dsimp only at ho6 ⊢
      rw [hsl2] at ho6 ⊢
      have hb56 := bt hb35' hb35'.size hb6
      obtain ⟨W6, hW6⟩ : ∃ W, w6.alloc (.cells #[.string sn, .slice A6 sl c6] 24) = W := ⟨_, rfl⟩
      have hb6' : Below w6.heap.size w6 W6 := by rw [← hW6]; exact bAl _ _
      have hz6 : w6.heap.size < W6.heap.size := by rw [← hW6]; simp
      have y0 : W6.cell? ⟨w6.heap.size, 0, none⟩ = some (.string sn) := by rw [← hW6, World.cell?_alloc_at _ _ _ _ rfl]; rfl
      have y1 : W6.cell? ⟨w6.heap.size, 1, none⟩ = some (.slice A6 sl c6) := by rw [← hW6, World.cell?_alloc_at _ _ _ _ rfl]; rfl
      have hb36' : Below W3.heap.size W3 W6 := bt hb56 hb56.size hb6'
      have hb5W6 : Below W5.heap.size W5 W6 := bt hb6 hb6.size hb6'
      have ho60 : w6.ownsRow W5.heap.size 5 1 (.slice A6 sl c6) sl (bv sr) := by unfold OwnB at ho6; rw [hsl2] at ho6; exact ho6
      have hry : Rd W6 w6.heap.size A6 (bv sr) := Rd.via hb6' (Rd.of_own ho60) (Nat.le_refl _)
      have hY : ∀ W, Below W6.heap.size W6 W → W.cell? ⟨w6.heap.size, 0, none⟩ = some (.string sn) ∧ W.cell? ⟨w6.heap.size, 1, none⟩ = some (.slice A6 sl c6) := fun W h => ⟨(h.cell (p := ⟨w6.heap.size, 0, none⟩) hz6).trans y0, (h.cell (p := ⟨w6.heap.size, 1, none⟩) hz6).trans y1⟩
      have HY := Lib.hid hY
      obtain ⟨o0, o1⟩ := HO.out _ hb36'
      obtain ⟨zb, hzb⟩ : ∃ zb, (bare fa).length = zb := ⟨_, rfl⟩
      have hzl : zb ≤ n := by rw [← hzb, ← hfn]; exact bare_len fa
      have hbz := bareX na A' c' fa W6 (B := W3.heap.size) (Rd.via hb36' hro (Nat.le_refl _)) hb36'.size (by omega) hcc (by omega)
      unfold TwinX at hbz
      rw [hfn, hzb] at hbz
      clear hY y0 y1 hir
      go_wp2_with fail
      clear o0 o1 hW6
      refine hbz.mono ?_
      rintro e w7 ⟨A7, c7, rfl, ho7, hb7⟩
      clear hbz
      have hb37 := bt hb36' hb36'.size hb7
      have hb57 := bt hb5W6 hb5W6.size hb7
      obtain ⟨W7, hW7⟩ : ∃ W, w7.alloc (.cells #[.string na, .slice A7 zb c7] 24) = W := ⟨_, rfl⟩
      have hb7' : Below w7.heap.size w7 W7 := by rw [← hW7]; exact bAl _ _
      have hz7 : w7.heap.size < W7.heap.size := by rw [← hW7]; simp
      have z0 : W7.cell? ⟨w7.heap.size, 0, none⟩ = some (.string na) := by rw [← hW7, World.cell?_alloc_at _ _ _ _ rfl]; rfl
      have z1 : W7.cell? ⟨w7.heap.size, 1, none⟩ = some (.slice A7 zb c7) := by rw [← hW7, World.cell?_alloc_at _ _ _ _ rfl]; rfl
      have q37 : Below W3.heap.size W3 W7 := bt hb37 hb37.size hb7'
      have q57 : Below W5.heap.size W5 W7 := bt hb57 hb57.size hb7'
      have q67 : Below W6.heap.size W6 W7 := bt hb7 hb7.size hb7'
      have q07 : Below W0.heap.size W0 W7 := bt hbW3 hbW3.size q37
      go_wp2_with fail
      clear hW7
      have hwW7 := HF.out _ q07
      have hS : ∀ W, Below W7.heap.size W7 W → (W.cell? ⟨w5.heap.size, 0, none⟩ = some (.string sn) ∧ W.cell? ⟨w5.heap.size, 1, none⟩ = some (.slice A5 sl c5)) ∧ (W.cell? ⟨w6.heap.size, 0, none⟩ = some (.string sn) ∧ W.cell? ⟨w6.heap.size, 1, none⟩ = some (.slice A6 sl c6)) ∧ (W.cell? ⟨w7.heap.size, 0, none⟩ = some (.string na) ∧ W.cell? ⟨w7.heap.size, 1, none⟩ = some (.slice A7 zb c7)) ∧ (W.cell? ⟨w.heap.size, 0, none⟩ = some (.string na) ∧ W.cell? ⟨w.heap.size, 1, none⟩ = some (.slice A n c)) := fun W h =>
        ⟨HX.out _ (bt q57 q57.size h), HY.out _ (bt q67 q67.size h), ⟨(h.cell (p := ⟨w7.heap.size, 0, none⟩) hz7).trans z0, (h.cell (p := ⟨w7.heap.size, 1, none⟩) hz7).trans z1⟩, (HI.out _ (bt q07 q07.size h)).a0, (HI.out _ (bt q07 q07.size h)).a1⟩
      have hrx7 : Rd W7 W7.heap.size A5 (bv sr) := (Rd.via q57 hrx (Nat.le_of_lt hz5)).mono (by have := q57.size; omega)
      have hry7 : Rd W7 W7.heap.size A6 (bv sr) := (Rd.via q67 hry (Nat.le_of_lt hz6)).mono (by have := q67.size; omega)
      have ho70 : w7.ownsRow W6.heap.size 5 1 (.slice A7 zb c7) zb (bv (bare fa)) := by unfold OwnB at ho7; rw [hzb] at ho7; exact ho7
      have hrz7 : Rd W7 W7.heap.size A7 (bv (bare fa)) := (Rd.via hb7' (Rd.of_own ho70) (Nat.le_refl _)).mono (Nat.le_of_lt hz7)
      have sxy : ∀ W, Below W7.heap.size W7 W → Calls Try.prog 11 #[.agg #[.string sn, .slice A5 sl c5], .agg #[.string sn, .slice A6 sl c6]] W fun e w' => e = .returned (.bool true) ∧ Below W7.heap.size W7 w' := fun W h => by
        have h9 := same_any sn sn A5 A6 c5 c6 sr sr W (Rd.via h hrx7 (Nat.le_refl _)) (Rd.via h hry7 (Nat.le_refl _)) h.size
        rw [hsl2] at h9
        refine h9.mono fun e w' q => ⟨?_, bt h h.size q.2⟩
        rw [q.1]; simp
      have bar : ∀ W, Below W7.heap.size W7 W → Calls Try.prog 22 #[.agg #[.string na, .slice A n c]] W fun e w' => ∃ A8 c8, e = .returned (.agg #[.string na, .slice A8 zb c8]) ∧ Rd w' w'.heap.size A8 (bv (bare fa)) ∧ Below W7.heap.size W7 w' := fun W h => by
        have h9 := bare_ref na A c fa W (B := B) (Rd.via (bt hwW7 hwW7.size h) ha hB) (Nat.le_trans hB (bt hwW7 hwW7.size h).size) (by omega) hm (by omega)
        unfold TwinX at h9
        rw [hfn, hzb] at h9
        refine h9.mono fun e w' ⟨A8, c8, q1, q2, q3⟩ => ⟨A8, c8, q1, ?_, bt h h.size q3⟩
        unfold OwnB at q2
        rw [hzb] at q2
        exact Rd.of_own q2
      have szb : ∀ A8 c8 W, Below W7.heap.size W7 W → Rd W W.heap.size A8 (bv (bare fa)) → Calls Try.prog 11 #[.agg #[.string na, .slice A7 zb c7], .agg #[.string na, .slice A8 zb c8]] W fun e w' => e = .returned (.bool true) ∧ Below W7.heap.size W7 w' := fun A8 c8 W h hr => by
        have h9 := same_any na na A7 A8 c7 c8 (bare fa) (bare fa) W ((Rd.via h hrz7 (Nat.le_refl _)).mono h.size) hr (Nat.le_refl _)
        rw [hzb] at h9
        refine h9.mono fun e w' q => ⟨?_, bt h h.size q.2⟩
        rw [q.1]; simp
      have HS := Lib.hid hS
      clear hS z0 z1
      go_region_held3 (fun W => (W.cell? ⟨w5.heap.size, 0, none⟩ = some (.string sn) ∧ W.cell? ⟨w5.heap.size, 1, none⟩ = some (.slice A5 sl c5)) ∧ (W.cell? ⟨w6.heap.size, 0, none⟩ = some (.string sn) ∧ W.cell? ⟨w6.heap.size, 1, none⟩ = some (.slice A6 sl c6)) ∧ (W.cell? ⟨w7.heap.size, 0, none⟩ = some (.string na) ∧ W.cell? ⟨w7.heap.size, 1, none⟩ = some (.slice A7 zb c7)) ∧ (W.cell? ⟨w.heap.size, 0, none⟩ = some (.string na) ∧ W.cell? ⟨w.heap.size, 1, none⟩ = some (.slice A n c)))
        (exact HS.out _ (by repeat (first | assumption | exact Below.refl _ _ | refine Below.drew ?_)))
        (first
          | (go_at_call 11; (with_reducible refine (sxy _ ?_).mono ?_); (repeat (first | assumption | exact Below.refl _ _ | refine Below.drew ?_)); rintro e u1 ⟨rfl, hu1⟩)
          | (go_at_call 22; (with_reducible refine (bar _ ?_).mono ?_); (repeat (first | assumption | exact Below.refl _ _ | refine Below.drew ?_)); rintro e u2 ⟨A8, c8, rfl, ho8, hu2⟩)
          | (go_at_call 11; (with_reducible refine (szb A8 c8 _ ?_ ?_).mono ?_); exact hu2; exact ho8; rintro e u3 ⟨rfl, hu3⟩))
      go_wp2_with fail
      have hS : ∀ W, Below W7.heap.size W7 W → W.cell? ⟨w3.heap.size, 0, none⟩ = some (.string na) ∧ W.cell? ⟨w3.heap.size, 1, none⟩ = some (.slice A' n c') ∧ W.cell? ⟨w.heap.size, 0, none⟩ = some (.string na) ∧ W.cell? ⟨w.heap.size, 1, none⟩ = some (.slice A n c) ∧ W.cell? ⟨w.heap.size + 1, 0, none⟩ = some (.string nb) ∧ W.cell? ⟨w.heap.size + 1, 1, none⟩ = some (.slice A2 m c2) ∧ W.cell? ⟨w.heap.size + 1 + 1, 0, none⟩ = some (.string vn) ∧ W.cell? ⟨w.heap.size + 1 + 1, 1, none⟩ = some (.string tn) ∧ W.cell? ⟨w.heap.size + 1 + 1, 2, none⟩ = some (.slice A3 k c3) ∧ W.cell? ⟨w.heap.size + 1 + 1, 3, none⟩ = some (.bool vh) ∧ W.cell? ⟨w.heap.size + 1 + 1, 4, none⟩ = some (.slice D dl dc) ∧ W.cell? ⟨w.heap.size + 1 + 1, 5, none⟩ = some (.slice GA gl gc) := fun W h =>
        have q := HI.out _ (bt q07 q07.size h)
        have o := HO.out _ (bt q37 q37.size h)
        ⟨o.1, o.2, q.a0, q.a1, q.b0, q.b1, q.v0, q.v1, q.v2, q.v3, q.v4, q.v5⟩
      have HS2 := Lib.hid hS
      have fw : ∀ W, Below W7.heap.size W7 W → Below w.heap.size w W := fun W h => bt hwW7 hwW7.size h
      have hro7 : Rd W7 W7.heap.size A' (bv fa) := (Rd.via q37 hro (Nat.le_refl _)).mono q37.size
      obtain ⟨F, hF⟩ : ∃ F, fits na nb fa fb = F := ⟨_, rfl⟩
      obtain ⟨U, hU⟩ : ∃ U, usable tn nb fv fb vh nul has = U := ⟨_, rfl⟩
      have f1 : ∀ W, Below W7.heap.size W7 W → Calls Try.prog 9 #[.agg #[.string na, .slice A' n c'], .agg #[.string nb, .slice A2 m c2]] W fun e w' => e = .returned (.bool F) ∧ Below W7.heap.size W7 w' := fun W h => by
        have h9 := fitsX na nb A' A2 c' c2 fa fb W W.heap.size ((Rd.via h hro7 (Nat.le_refl _)).mono h.size) ((Rd.via (fw W h) hb hB).mono (Nat.le_trans hB (fw W h).size)) (Nat.le_refl _) (by omega) hcc (by omega) hm2
        rw [hfn, hfm, hF] at h9
        exact h9.mono fun e w' q => ⟨q.1, bt h h.size q.2⟩
      have f2 : ∀ W, Below W7.heap.size W7 W → Calls Try.prog 23 #[.agg #[.string na, .slice A n c], .agg #[.string nb, .slice A2 m c2]] W fun e w' => e = .returned (.bool F) ∧ Below W7.heap.size W7 w' := fun W h => by
        have h9 := fits_ref na nb fa fb A A2 c c2 W B (Rd.via (fw W h) ha hB) (Rd.via (fw W h) hb hB) (Nat.le_trans hB (fw W h).size) (by omega) hm (by omega) hm2
        rw [hfn, hfm, hF] at h9
        exact h9.mono fun e w' q => ⟨q.1, bt h h.size q.2⟩
      have u1c : ∀ W, Below W7.heap.size W7 W → Calls Try.prog 13 #[.agg #[.string vn, .string tn, .slice A3 k c3, .bool vh, .slice D dl dc, .slice GA gl gc], .agg #[.string nb, .slice A2 m c2], .bool has] W fun e w' => e = .returned (.bool U) ∧ Below W7.heap.size W7 w' := fun W h => by
        have h9 := usable_any vn tn nb A3 D A2 c3 dl dc c2 (.slice GA gl gc) fv fb vh nul has W (B := B) (Rd.via (fw W h) hv hB) (Rd.via (fw W h) hb hB) (hdf.keep (fw W h) hB) (Nat.le_trans hB (fw W h).size) (by omega) hm3 (by omega) hm2 (by omega)
        unfold inp rf at h9
        rw [hfk, hfm, hU] at h9
        exact h9.mono fun e w' q => ⟨q.1, bt h h.size q.2⟩
      have u2c : ∀ W, Below W7.heap.size W7 W → Calls Try.prog 24 #[.agg #[.string vn, .string tn, .slice A3 k c3, .bool vh, .slice D dl dc, .slice GA gl gc], .agg #[.string nb, .slice A2 m c2], .bool has] W fun e w' => e = .returned (.bool U) ∧ Below W7.heap.size W7 w' := fun W h => by
        have h9 := usable_ref vn tn nb A3 D A2 k m c3 dl dc c2 (.slice GA gl gc) fv fb hfk hfm vh nul has W (B := B) (Rd.via (fw W h) hv hB) (Rd.via (fw W h) hb hB) (hdf.keep (fw W h) hB) (Nat.le_trans hB (fw W h).size) hc3 hm3 hc2 hm2 (by omega)
        rw [hU] at h9
        exact h9.mono fun e w' q => ⟨q.1, bt h h.size q.2⟩
      have hl0 := HS2.out _ hu3
      clear hS hF hU sxy bar szb
      go_region_held3 (fun W => W.cell? ⟨w3.heap.size, 0, none⟩ = some (.string na) ∧ W.cell? ⟨w3.heap.size, 1, none⟩ = some (.slice A' n c') ∧ W.cell? ⟨w.heap.size, 0, none⟩ = some (.string na) ∧ W.cell? ⟨w.heap.size, 1, none⟩ = some (.slice A n c) ∧ W.cell? ⟨w.heap.size + 1, 0, none⟩ = some (.string nb) ∧ W.cell? ⟨w.heap.size + 1, 1, none⟩ = some (.slice A2 m c2) ∧ W.cell? ⟨w.heap.size + 1 + 1, 0, none⟩ = some (.string vn) ∧ W.cell? ⟨w.heap.size + 1 + 1, 1, none⟩ = some (.string tn) ∧ W.cell? ⟨w.heap.size + 1 + 1, 2, none⟩ = some (.slice A3 k c3) ∧ W.cell? ⟨w.heap.size + 1 + 1, 3, none⟩ = some (.bool vh) ∧ W.cell? ⟨w.heap.size + 1 + 1, 4, none⟩ = some (.slice D dl dc) ∧ W.cell? ⟨w.heap.size + 1 + 1, 5, none⟩ = some (.slice GA gl gc))
        (exact HS2.out _ (by repeat (first | assumption | exact Below.refl _ _ | refine Below.drew ?_)))
        (first
          | (go_at_call 9; (with_reducible refine (f1 _ ?_).mono ?_); (repeat (first | assumption | exact Below.refl _ _ | refine Below.drew ?_)); rintro e t1 ⟨rfl, ht1⟩)
          | (go_at_call 23; (with_reducible refine (f2 _ ?_).mono ?_); (repeat (first | assumption | exact Below.refl _ _ | refine Below.drew ?_)); rintro e t2 ⟨rfl, ht2⟩)
          | (go_at_call 13; (with_reducible refine (u1c _ ?_).mono ?_); (repeat (first | assumption | exact Below.refl _ _ | refine Below.drew ?_)); rintro e t3 ⟨rfl, ht3⟩)
          | (go_at_call 24; (with_reducible refine (u2c _ ?_).mono ?_); (repeat (first | assumption | exact Below.refl _ _ | refine Below.drew ?_)); rintro e t4 ⟨rfl, ht4⟩))
      all_goals
        go_wp2_with fail
        clear hl0 f1 f2 u1c u2c ht1 ht2 ht3
        have hr5 := rowF_of ho50
        have hr7 := rowF_of ho70
        have b5t : Below w5.heap.size w5 t4 := bt hb5' hb5'.size (bt q57 q57.size ht4)
        have b7t : Below w7.heap.size w7 t4 := bt hb7' hb7'.size ht4
        have X0 := HX.out _ (bt q57 q57.size ht4)
        have Z0 := (HS.out _ ht4).2.2.1
        have b3t : Below W3.heap.size W3 t4 := bt q37 q37.size ht4
        have s3 := hb4.size
        have s5 := hb5.size
        have s57 := hb57.size
        have s67 := hb7.size
        have s6' := hb5W6.size
        have st := b7t.size
        have st5 := b5t.size
        have sw7 := ht4.size
        obtain ⟨g, hg0, hg1, hg2, hgR⟩ : ∃ g, (sl = 0 ∨ A5 = some ⟨g, 0, none⟩) ∧ W3.heap.size ≤ g ∧ (g < w5.heap.size ∨ t4.heap.size ≤ g) ∧ RowF t4 g sl := by
          rcases hr5 with h | ⟨g, e, h1, h2, h3⟩
          · exact ⟨t4.heap.size, .inl h, by omega, .inr (Nat.le_refl _), fun j hj => by omega⟩
          · exact ⟨g, .inr e, by omega, .inl h2, h3.below b5t h2⟩
        obtain ⟨g', hp0, hp1, hp2, hpR⟩ : ∃ g', (zb = 0 ∨ A7 = some ⟨g', 0, none⟩) ∧ W6.heap.size ≤ g' ∧ (g' < w7.heap.size ∨ t4.heap.size ≤ g') ∧ RowF t4 g' zb := by
          rcases hr7 with h | ⟨g, e, h1, h2, h3⟩
          · exact ⟨t4.heap.size, .inl h, by omega, .inr (Nat.le_refl _), fun j hj => by omega⟩
          · exact ⟨g, .inr e, h1, .inl h2, h3.below b7t h2⟩
        obtain ⟨x0, x1⟩ := X0
        obtain ⟨z0, z1⟩ := Z0
        go_loopw [25] (fun i W => ∃ q : Nat, q ≤ sl ∧ i = .int .i64 q ∧ t4.grownBy W (some g) ∧ RowF W g sl) (fun i _ => sl - (RowKit.intOf i).toNat)
        case atStart => exact ⟨0, Nat.zero_le _, rfl, grefl _ _, hgR⟩
        case round =>
          obtain ⟨q, hq, rfl, hgw, hrf⟩ := hrel
          obtain ⟨WA, rfl⟩ : ∃ W : World, W = wr := ⟨_, rfl⟩
          have y0 := (gfar (o := 0) hgw (show w5.heap.size < t4.heap.size by omega) (by omega)).trans x0
          have y1 := (gfar (o := 1) hgw (show w5.heap.size < t4.heap.size by omega) (by omega)).trans x1
          by_cases hql : q < sl
          · rcases hg0 with hg0 | rfl
            · omega
            · obtain ⟨⟨cv, hcv⟩, hcf⟩ := hrf q hql
              have hq0 : WA.cell? ⟨g, 0 + q, none⟩ = some cv := by rw [Nat.zero_add]; exact hcv
              have hqf : WA.frozen? ⟨g, 0 + q, none⟩ = false := by rw [Nat.zero_add]; exact hcf
              go_wp2_with fail
              go_roundw
              case rel => exact ⟨q + 1, by omega, by go_num, gtrans hgw (gset _ _ _ _), hrf.set hql⟩
              case measure => simp [RowKit.intOf]; omega
          · clear hrf
            go_wp2_with fail
            clear y0 y1 x0 x1 hg0
            have sA := hgw.size
            have hpR2 : RowF WA g' zb := fun j hj => by
              obtain ⟨⟨v, hv⟩, hf⟩ := hpR j hj
              have hlt : g' < t4.heap.size := World.block_lt_of_cell? _ ⟨g', j, none⟩ hv
              have hbl := hgw.block g' hlt (by simp; omega)
              exact ⟨⟨v, (World.cell?_of_block (a := ⟨g', j, none⟩) hbl).trans hv⟩, (World.frozen?_of_block (a := ⟨g', j, none⟩) hbl).trans hf⟩
            have zz0 := (gfar (o := 0) hgw (show w7.heap.size < t4.heap.size by omega) (by omega)).trans z0
            have zz1 := (gfar (o := 1) hgw (show w7.heap.size < t4.heap.size by omega) (by omega)).trans z1
            clear z0 z1 hgR hpR
            go_loopw [26] (fun i W => ∃ q : Nat, q ≤ zb ∧ i = .int .i64 q ∧ WA.grownBy W (some g') ∧ RowF W g' zb) (fun i _ => zb - (RowKit.intOf i).toNat)
            case atStart => exact ⟨0, Nat.zero_le _, rfl, grefl _ _, hpR2⟩
            case round =>
              obtain ⟨q2, hq2, rfl, hgw2, hrf2⟩ := hrel
              obtain ⟨WB, rfl⟩ : ∃ W : World, W = wr := ⟨_, rfl⟩
              have y0 := (gfar (o := 0) hgw2 (show w7.heap.size < WA.heap.size by omega) (by omega)).trans zz0
              have y1 := (gfar (o := 1) hgw2 (show w7.heap.size < WA.heap.size by omega) (by omega)).trans zz1
              by_cases hql2 : q2 < zb
              · rcases hp0 with hp0 | rfl
                · omega
                · obtain ⟨⟨cv, hcv⟩, hcf⟩ := hrf2 q2 hql2
                  have hq0 : WB.cell? ⟨g', 0 + q2, none⟩ = some cv := by rw [Nat.zero_add]; exact hcv
                  have hqf : WB.frozen? ⟨g', 0 + q2, none⟩ = false := by rw [Nat.zero_add]; exact hcf
                  go_wp2_with fail
                  go_roundw
                  case rel => exact ⟨q2 + 1, by omega, by go_num, gtrans hgw2 (gset _ _ _ _), hrf2.set hql2⟩
                  case measure => simp [RowKit.intOf]; omega
              · have hf1 : Below W3.heap.size W3 WA := b3t.grown hgw b3t.size (fun k hk => by cases hk; exact hg1)
                have hf2 : Below W3.heap.size W3 WB := hf1.grown hgw2 hf1.size (fun k hk => by cases hk; have := hb36'.size; omega)
                have hf0 : Below W0.heap.size W0 WB := bt hbW3 hbW3.size hf2
                obtain ⟨o0, o1⟩ := HO.out _ hf2
                have qi := HI.out _ hf0
                have i0 := qi.a0
                have i1 := qi.a1
                have hwB := HF.out _ hf0
                have hsm := same_any na na A' A c' c fa fa WB ((Rd.via hf2 hro (Nat.le_refl _)).mono hf2.size) ((Rd.via hwB ha hB).mono (Nat.le_trans hB hwB.size)) (Nat.le_refl _)
                rw [hfn] at hsm
                clear hrf2 zz0 zz1 hpR2 qi
                go_wp2_with fail
                refine hsm.mono ?_
                rintro e wE ⟨rfl, hbE⟩
                go_wp2_with fail
                go_ret
                exact ⟨ret_bool (by simp), bt hwB hwB.size hbE⟩
section
open Go.ChangeShapes Go.WideShapes Go.ChangeAt
open Go.ChangeMaps (open_string shut_string)
theorem own : ownKnob Try.prog.godebug = none := by kernel_rfl
theorem laidOut : laidOutB Try.prog = true := by kernel_rfl
set_option maxRecDepth 100000 in
theorem lifted (os : Os) (started : os.Started) (H : Type) (enc : TypeId × Value → H) :
    ReturnsInHanded {} Try.checked os 7 .any (Rows.kindTellsSpec.pre6 enc Try.prog Try.f7 Rows.kindTellsRow.domain false) (Rows.kindTellsSpec.post enc Try.prog Try.f7 false true false false) := by
  refine returnsInHanded_of_change_shaped (C := Try.checked) own started (by kernel_rfl) Try.func7
    (ChangeSpec.witness6 (enc := enc) (C := Try.checked) false ⟨#[], #[.slice none 0 0, .string ⟨#[]⟩, .agg #[.string ⟨#[]⟩, .slice none 0 0], .agg #[.string ⟨#[]⟩, .slice none 0 0], .agg #[.string ⟨#[]⟩, .string ⟨#[]⟩, .slice none 0 0, .bool false, .slice none 0 0, .slice none 0 0], .bool false], []⟩ 8 (by kernel_rfl) (by kernel_rfl) (by kernel_rfl) (by kernel_rfl)) ?_
  intro W base args ds gs before hval0 hW _ hsz0 hsh0 _
  have hsh : W.ShapedOpen Try.prog := hsh0
  have hsz : (DataW.weightsEach Try.prog (Try.f7.params.toList ++ Rows.kindTellsSpec.plain.varTypes Try.prog) (ds ++ gs)).all (· ≤ reachBytes) = true := hsz0
  clear hsz0 hsh0
  have hval : ∀ (j : Nat) t v, Try.f7.params[j]? = some t → args[j]? = some v → Value.okWide Try.prog W .any base t v := hval0
  have hW' := hW
  obtain ⟨p, q, hA0, hV, rfl, hfz, hnd⟩ := hW
  have hA : DataW.TrodAll enc Try.prog W 0 (fun _ => true) true Try.f7.params.toList args.toList ds p := hA0
  rw [Try.params7] at hA hval hsz
  have hlt0 : ∀ x ∈ p, x.block < W.heap.size := fun x hx => hW'.lt x (by simp [hx])
  obtain ⟨v0, vs0, d0, ds0, p0, q0, hargs, rfl, rfl, h0, r0⟩ := trodAll_cons hA
  obtain ⟨v1, vs1, d1, ds1, p1, q1, rfl, rfl, rfl, h1, r1⟩ := trodAll_cons r0
  obtain ⟨v2, vs2, d2, ds2, p2, q2, rfl, rfl, rfl, h2, r2⟩ := trodAll_cons r1
  obtain ⟨v3, vs3, d3, ds3, p3, q3, rfl, rfl, rfl, h3, r3⟩ := trodAll_cons r2
  obtain ⟨v4, vs4, d4, ds4, p4, q4, rfl, rfl, rfl, h4, r4⟩ := trodAll_cons r3
  obtain ⟨v5, vs5, d5, ds5, p5, q5, rfl, rfl, rfl, h5, r5⟩ := trodAll_cons r4
  obtain ⟨rfl, rfl, rfl⟩ := trodAll_nil r5
  obtain rfl : args = #[v0, v1, v2, v3, v4, v5] := by cases args; simp_all
  obtain ⟨rfl, rfl⟩ := trodVars_none hV
  obtain ⟨name, rfl, rfl, rfl, wname⟩ := open_string Try.underlying9 (hval 1 9 v1 rfl rfl) h1
  have rname : name.size ≤ 140737488351232 := by
    have := sized_string hsz (j := 1) rfl rfl
    simpa [reachBytes] using this
  obtain ⟨Al, nl, cl, rfl, sll⟩ := open_defs (hval 0 47 v0 rfl rfl) h0
  obtain ⟨dsl, hdl, drl⟩ := drd_of sll
  obtain ⟨nma, Aa, ca, a, rfl, ha, la, ma⟩ := open_ref (hval 2 24 v2 rfl rfl) h2
  obtain ⟨nmb, Ab, cb, b, rfl, hb, lb, mb⟩ := open_ref (hval 3 24 v3 rfl rfl) h3
  obtain ⟨vnv, tnv, Av, cv, v, vhv, Dv, dlv, dcv, nulv, GAv, glv, gcv, rfl, hv, lv, mv, hdv, sdv⟩ := open_input2 (hval 4 33 v4 rfl rfl) h4
  obtain ⟨has, rfl⟩ := open_bool Try.underlying4 (hval 5 4 v5 rfl rfl) h5
  clear hA0 hval0
  refine (walk Al nl cl name dsl hdl nma nmb vnv tnv Aa Ab Av Dv GAv _ ca _ cb _ cv dlv dcv glv gcv a b v rfl rfl rfl vhv nulv has W (Nat.le_refl _) sll drl ha hb hv hdv sdv la ma lb mb lv mv).mono fun e W' ⟨he, hb⟩ => ⟨_, he, ?_⟩
  exact law_post laidOut (of_decide_eq_true (by kernel_rfl)) rfl rfl Try.underlying4 (fun ds hl => by
    match ds, hl with
    | [_, _, _, _, _, _], _ => rfl) hW' hb

theorem proved : Rows.KindTellsSaid :=
  OpenClaim.holds_of_wide 7 Try.f7 rfl rfl rfl rfl rfl rfl rfl ⟨rfl, rfl, rfl, rfl, rfl⟩ rfl rfl rfl rfl rfl (by kernel_rfl) Try.func7 (by kernel_rfl)
    (of_decide_eq_true (by kernel_rfl)) (by unfold Func.isWrapper; first | (rw [if_pos (by decide +kernel)]; kernel_rfl) | (rw [if_neg (by decide +kernel)]; exact ⟨rfl, rfl⟩))
    (fun os started H enc _ => lifted os started H enc)
end
end Go.Proofs.Ytgoecnhkmfnenaa.kindTells
