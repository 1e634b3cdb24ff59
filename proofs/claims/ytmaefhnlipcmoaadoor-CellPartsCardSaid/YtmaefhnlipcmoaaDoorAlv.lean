/- The chapter's object; alive: the chapter's first examples. Conditions: Go's two tables of utf8. -/
import Derived.Test.YtmaefhnlipcmoaaDoorFnU
namespace Go.Proofs.YtmaefhnlipcmoaaDoor
open Go.RowKit
def fiveL : List Cel := [⟨7, ⟨#[]⟩, ⟨#[]⟩, 0, 2⟩, ⟨2, ⟨#[97]⟩, ⟨#[]⟩, 1, 0⟩, ⟨6, ⟨#[98]⟩, ⟨#[]⟩, 0, 2⟩, ⟨0, ⟨#[]⟩, ⟨#[]⟩, 0, 0⟩, ⟨3, ⟨#[]⟩, ⟨#[120]⟩, 0, 0⟩]
def smallB (c : Cel) : Bool := decide (c.kind ≤ 255) && decide (c.name.size ≤ 300) && decide (c.text.size ≤ 3000) && decide (-1000000000 ≤ c.num) && decide (c.num ≤ 1000000000) && decide (-1000000000 ≤ c.many) && decide (c.many ≤ 1000000000)
theorem wf_of_small {xs : List Cel} (h : xs.all smallB = true) : ∀ c ∈ xs, CelW maxLen c := by
  intro c hc
  have := List.all_eq_true.1 h c hc
  unfold smallB at this
  simp only [Bool.and_eq_true, decide_eq_true_eq] at this
  unfold maxLen
  exact ⟨this.1.1.1.1.1.1, by omega, by omega, by omega, by omega, by omega, by omega⟩
theorem in_new {w w' : World} {xs : List Cel} {arr : Array Value} (ha : arr.toList = cv xs) (hw : w' = w.alloc (.cells arr 45)) (hs : xs.all smallB = true) (hl : xs.length ≤ 1000000) (hT : Tabs w) : In xs (some ⟨w.heap.size, 0, none⟩) w' w'.heap.size := by
  subst hw
  refine ⟨(rd_new w arr 45 _ ha).mono (by simp), Nat.le_refl _, by unfold maxLen; omega, hT.below ((Below.refl _ _).alloc (Nat.le_refl _) _), wf_of_small hs⟩
theorem five_any (w : World) : Calls Tryd.prog 17 #[] w fun e w' => e = .returned (.slice (some ⟨w.heap.size, 0, none⟩) 5 5) ∧ w' = w.alloc (.cells (cv fiveL).toArray 45) := by
  go_enter Tryd.func17, Tryd.ntmps17
  go_wp2
  go_ret
  exact ⟨rfl, rfl⟩
theorem five_in {w w' : World} (hw : w' = w.alloc (.cells (cv fiveL).toArray 45)) (hT : Tabs w) : In fiveL (some ⟨w.heap.size, 0, none⟩) w' w'.heap.size :=
  in_new (by simp) hw (by decide +kernel) (by decide) hT
theorem five_below {w w' : World} (hw : w' = w.alloc (.cells (cv fiveL).toArray 45)) : Below w.heap.size w w' := by
  subst hw
  exact (Below.refl _ _).alloc (Nat.le_refl _) _
set_option maxHeartbeats 1000000 in
theorem ends_true (a n : Int) (w : World) (hT : Tabs w) (h1 : askedC fiveL a = 0) (h2 : endR fiveL a = n) :
    Calls Tryd.prog 41 #[.int .i64 a, .int .i64 n] w fun e w' => e = .returned (.bool true) ∧ Below w.heap.size w w' := by
  go_enter Tryd.func41, Tryd.ntmps41
  go_wp2_with fail
  refine (five_any w).mono ?_
  rintro e w1 ⟨rfl, hw1⟩
  have hI := five_in hw1 hT
  have hb1 := five_below hw1
  have c1 := end_any (some ⟨w.heap.size, 0, none⟩) 5 a w1 hI
  rw [h1, h2] at c1
  clear hw1 hI h1 h2
  go_wp2_with fail
  refine c1.mono ?_
  rintro e w2 ⟨rfl, hb2⟩
  go_wp2
  go_ret
  exact ⟨rfl, hb1.trans (hb2.mono hb1.size)⟩
theorem kids_0 : kidsR fiveL 0 = [1, 2] := by kernel_rfl
theorem kids_2 : kidsR fiveL 2 = [3, 4] := by kernel_rfl
theorem kids_1 : kidsR fiveL 1 = [] := by kernel_rfl
theorem asked_0 : askedC fiveL 0 = 0 := by kernel_rfl
theorem asked_1 : askedC fiveL 1 = 0 := by kernel_rfl
theorem asked_2 : askedC fiveL 2 = 0 := by kernel_rfl
theorem end_0 : endR fiveL 0 = 5 := by kernel_rfl
theorem end_1 : endR fiveL 1 = 2 := by kernel_rfl
theorem end_2 : endR fiveL 2 = 5 := by kernel_rfl
theorem mem_b : memR fiveL 0 ⟨#[98]⟩ = some 2 := by kernel_rfl
theorem mem_c : memR fiveL 0 ⟨#[99]⟩ = none := by kernel_rfl
theorem own_two {w : World} {base : Nat} {v : Value} {x y : Int} (h : w.ownsRow base 3 1 v 2 (iv [x, y])) : ∃ g c, v = .slice (some ⟨g, 0, none⟩) 2 c ∧ g < w.heap.size ∧ w.cell? ⟨g, 0, none⟩ = some (.int .i64 x) ∧ w.cell? ⟨g, 1, none⟩ = some (.int .i64 y) := by
  obtain ⟨g, c, cur, rfl, _, h1, h2, h3, h4, h5⟩ := own_some h (by omega)
  refine ⟨g, c, rfl, (Array.getElem?_eq_some_iff.1 h3).1, ?_, ?_⟩
  · rw [cell_of_row w g 0 _ _ (0, 0) h3, ← Array.getElem?_toList]
    have : (cur.toList.take (2 * 1))[0]? = (iv [x, y])[0]? := by rw [h5]
    rw [List.getElem?_take] at this
    simpa [iv] using this
  · rw [cell_of_row w g 1 _ _ (0, 0) h3, ← Array.getElem?_toList]
    have : (cur.toList.take (2 * 1))[1]? = (iv [x, y])[1]? := by rw [h5]
    rw [List.getElem?_take] at this
    simpa [iv] using this
set_option maxRecDepth 100000 in
set_option maxHeartbeats 4000000 in
theorem alive_any (w : World) (hT : Tabs w) : Calls Tryd.prog 20 #[] w fun e w' => e = .returned (.bool true) ∧ Below w.heap.size w w' := by
  have HT := Lib.hid hT
  clear hT
  go_enter Tryd.func20, Tryd.ntmps20
  go_wp2_with fail
  refine (five_any w).mono ?_
  rintro e w1 ⟨rfl, hw1⟩
  have b1 := five_below hw1
  have c1 := kids_any (some ⟨w.heap.size, 0, none⟩) 5 0 w1 (five_in hw1 HT.out) (.inl (by decide))
  rw [asked_0, kids_0] at c1
  clear hw1
  go_wp2_with fail
  refine c1.mono ?_
  rintro e w2 ⟨v1, rfl, ho1, hb2⟩
  clear c1
  obtain ⟨g1, k1, rfl, l1, x1, x2⟩ := own_two ho1
  clear ho1
  have b2 := b1.trans (hb2.mono b1.size)
  go_wp2_with fail
  refine (five_any w2).mono ?_
  rintro e w3 ⟨rfl, hw3⟩
  have b23 := five_below hw3
  have c2 := kids_any (some ⟨w2.heap.size, 0, none⟩) 5 2 w3 (five_in hw3 (HT.out.below b2)) (.inl (by decide))
  rw [asked_2, kids_2] at c2
  clear hw3
  go_wp2_with fail
  refine c2.mono ?_
  rintro e w4 ⟨v2, rfl, ho2, hb4⟩
  clear c2
  obtain ⟨g2, k2, rfl, l2, y1, y2⟩ := own_two ho2
  clear ho2
  have b24 := b23.trans (hb4.mono b23.size)
  have b4 := b2.trans (b24.mono b2.size)
  go_wp2_with fail
  refine (five_any w4).mono ?_
  rintro e w5 ⟨rfl, hw5⟩
  have b45 := five_below hw5
  have c3 := member_any (some ⟨w4.heap.size, 0, none⟩) 5 0 ⟨#[98]⟩ w5 (five_in hw5 (HT.out.below b4))
  rw [mem_b] at c3
  clear hw5
  go_wp2_with fail
  refine c3.mono ?_
  rintro e w6 ⟨rfl, hb6⟩
  clear c3
  have b46 := b45.trans (hb6.mono b45.size)
  have b6 := b4.trans (b46.mono b4.size)
  go_wp2_with fail
  refine (ends_true 0 5 w6 (HT.out.below b6) asked_0 end_0).mono ?_
  rintro e w7 ⟨rfl, hb7⟩
  have b7 := b6.trans (hb7.mono b6.size)
  go_wp2_with fail
  refine (ends_true 2 5 w7 (HT.out.below b7) asked_2 end_2).mono ?_
  rintro e w8 ⟨rfl, hb8⟩
  have b8 := b7.trans (hb8.mono b7.size)
  go_wp2_with fail
  refine (ends_true 1 2 w8 (HT.out.below b8) asked_1 end_1).mono ?_
  rintro e w9 ⟨rfl, hb9⟩
  have b9 := b8.trans (hb9.mono b8.size)
  have b49 : Below w4.heap.size w4 w9 := (((b46.trans (hb7.mono b46.size)).trans (hb8.mono (Nat.le_trans b46.size hb7.size))).trans (hb9.mono (Nat.le_trans b46.size (Nat.le_trans hb7.size hb8.size))))
  have b29 : Below w2.heap.size w2 w9 := b24.trans (b49.mono b24.size)
  have X1 := (b29.cell (p := ⟨g1, 0, none⟩) l1).trans x1
  have X2 := (b29.cell (p := ⟨g1, 1, none⟩) l1).trans x2
  have Y1 := (b49.cell (p := ⟨g2, 0, none⟩) l2).trans y1
  have Y2 := (b49.cell (p := ⟨g2, 1, none⟩) l2).trans y2
  clear x1 x2 y1 y2
  go_wp2
  go_ret
  exact ⟨rfl, b9⟩
end Go.Proofs.YtmaefhnlipcmoaaDoor
