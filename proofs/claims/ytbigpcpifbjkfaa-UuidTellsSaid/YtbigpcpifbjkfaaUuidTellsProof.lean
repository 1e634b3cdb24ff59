/- UuidTells: for any text and any two UUIDs the program answers as the reference does: the call returns true. Conditions: none. -/
import Derived.Test.YtbigpcpifbjkfaaRows
import Derived.Test.YtbigpcpifbjkfaaUuidLess
namespace Go.Proofs.Ytbigpcpifbjkfaa.uuidTells
open Go.ChangeMaps (open_string shut_string)
open Go.RowKit Go.ChangeShapes Go.WideShapes Go.ChangeAt
theorem rangeL {w : World} {b : Nat} {xs : List Int} {t : TypeId} (h : w.heap[b]? = some (.cells (av xs) t)) : w.rangeAt b 0 (xs.map (Value.int .u8)) := range16 h
theorem lenL {xs : List Int} (h : xs.length = 16) : (Try.prog.info? 22).map (·.size) = some (xs.map (Value.int .u8)).length := len16 h
set_option maxHeartbeats 2000000 in
theorem walk (s : ByteArray) (a b : List Int) (w : World) (hs : s.size ≤ maxLen) (ha : a.length = 16) (hb : b.length = 16) (ha9 : ∀ x ∈ a, 0 ≤ x ∧ x < 256) (hb9 : ∀ x ∈ b, 0 ≤ x ∧ x < 256) :
    Calls Try.prog 6 #[.string s, .agg (av a), .agg (av b)] w fun e w' => e = .returned (.bool true) ∧ Below w.heap.size w w' := by
  obtain ⟨hz, hb0, c1, c2⟩ := two_boxes w a b 22
  have hl0 : zero16.length = 16 := rfl
  have hz16 := fold0
  go_enter Try.func6, Try.ntmps6
  go_wp2_with fail
  refine (parse_any s _).mono ?_
  rintro e w1 ⟨rfl, hb1⟩
  obtain ⟨xs, n, hx, hl, h9, hn⟩ := parsed_facts s
  rw [hx]
  simp only
  obtain ⟨W0, hW0⟩ : ∃ W0, (w.alloc (.cells (av a) 22)).alloc (.cells (av b) 22) = W0 := ⟨_, rfl⟩
  rw [hW0] at hz hb0 c1 c2 hb1
  have hs1 := hb1.size
  replace c1 : w1.heap[w.heap.size]? = some (.cells (av a) 22) := by rw [hb1.block _ (by omega)]; exact c1
  replace c2 : w1.heap[w.heap.size + 1]? = some (.cells (av b) 22) := by rw [hb1.block _ (by omega)]; exact c2
  have hB : Below w.heap.size w w1 := hb0.trans (hb1.mono (by omega))
  have hw1 : w.heap.size + 2 ≤ w1.heap.size := by omega
  clear hb1 hb0 hW0 hz hs1
  have z3 : (w1.alloc (.cells (av zero16) 22)).heap[w1.heap.size]? = some (.cells (av zero16) 22) := heap_alloc_new _ _
  go_wp2_with (first | (refine wpList_store16 rfl _ _ rfl w1.heap.size zero16 xs 22 rfl rfl z3 hl0 hl ?_))
  obtain ⟨hB2, hb2, c3, hw2⟩ := put16 xs hB
  obtain ⟨W2, hW2⟩ : ∃ W2, (w1.alloc (.cells (av zero16) 22)).setRow w1.heap.size (av xs) = W2 := ⟨_, rfl⟩
  rw [hW2] at hB2 hb2 c3 hw2 ⊢
  clear hW2 z3
  replace c1 : W2.heap[w.heap.size]? = some (.cells (av a) 22) := by rw [hb2.block _ (by omega)]; exact c1
  replace c2 : W2.heap[w.heap.size + 1]? = some (.cells (av b) 22) := by rw [hb2.block _ (by omega)]; exact c2
  clear hB hb2
  refine (refparse_any s _ hs).mono ?_
  rintro e w3 ⟨rfl, hb3⟩
  rw [hx]
  simp only
  have hs3 := hb3.size
  replace c1 : w3.heap[w.heap.size]? = some (.cells (av a) 22) := by rw [hb3.block _ (by omega)]; exact c1
  replace c2 : w3.heap[w.heap.size + 1]? = some (.cells (av b) 22) := by rw [hb3.block _ (by omega)]; exact c2
  replace c3 : w3.heap[w1.heap.size]? = some (.cells (av xs) 22) := by rw [hb3.block _ (by omega)]; exact c3
  have hB3 : Below w.heap.size w w3 := hB2.trans (hb3.mono (by omega))
  clear hb3 hB2
  have z4 : (w3.alloc (.cells (av zero16) 22)).heap[w3.heap.size]? = some (.cells (av zero16) 22) := heap_alloc_new _ _
  go_wp2_with (first | (refine wpList_store16 rfl _ _ rfl w3.heap.size zero16 xs 22 rfl rfl z4 hl0 hl ?_))
  obtain ⟨hB4, hb4, c4, hw4⟩ := put16 xs hB3
  obtain ⟨W4, hW4⟩ : ∃ W4, (w3.alloc (.cells (av zero16) 22)).setRow w3.heap.size (av xs) = W4 := ⟨_, rfl⟩
  rw [hW4] at hB4 hb4 c4 hw4 ⊢
  clear hW4 z4
  replace c1 : W4.heap[w.heap.size]? = some (.cells (av a) 22) := by rw [hb4.block _ (by omega)]; exact c1
  replace c2 : W4.heap[w.heap.size + 1]? = some (.cells (av b) 22) := by rw [hb4.block _ (by omega)]; exact c2
  replace c3 : W4.heap[w1.heap.size]? = some (.cells (av xs) 22) := by rw [hb4.block _ (by omega)]; exact c3
  clear hB3 hb4
  refine (canon_any s _).mono ?_
  rintro e w5 ⟨rfl, hb5⟩
  rw [hx]
  simp only
  go_wp2_with fail
  refine (refcanon_any s _ hs).mono ?_
  rintro e w6 ⟨rfl, hb6⟩
  rw [hx]
  simp only
  have hs5 := hb5.size
  have hs6 := hb6.size
  replace c1 : w6.heap[w.heap.size]? = some (.cells (av a) 22) := by rw [hb6.block _ (by omega), hb5.block _ (by omega)]; exact c1
  replace c2 : w6.heap[w.heap.size + 1]? = some (.cells (av b) 22) := by rw [hb6.block _ (by omega), hb5.block _ (by omega)]; exact c2
  replace c3 : w6.heap[w1.heap.size]? = some (.cells (av xs) 22) := by rw [hb6.block _ (by omega), hb5.block _ (by omega)]; exact c3
  replace c4 : w6.heap[w3.heap.size]? = some (.cells (av xs) 22) := by rw [hb6.block _ (by omega), hb5.block _ (by omega)]; exact c4
  have hB6 : Below w.heap.size w w6 := hB4.trans ((hb5.mono (by omega)).trans (hb6.mono (by omega)))
  clear hB4 hb5 hb6
  have q1 := range16 c1
  have q2 := range16 c2
  have q3 := range16 c3
  have hu := Try.underlying22
  have i1 := lenL ha
  have i2 := lenL hb
  have i3 := lenL hl
  have hlt : w.heap.size + 1 < w6.heap.size ∧ w1.heap.size < w6.heap.size ∧ w3.heap.size < w6.heap.size := by omega
  have hP6 : Below w.heap.size w w6.drew ∧ w6.drew.heap[w.heap.size]? = some (.cells (av a) 22) ∧ w6.drew.heap[w.heap.size + 1]? = some (.cells (av b) 22) ∧ w6.drew.heap[w1.heap.size]? = some (.cells (av xs) 22) ∧ w6.drew.heap[w3.heap.size]? = some (.cells (av xs) 22) ∧ w6.heap.size ≤ w6.drew.heap.size := ⟨hB6.drew, c1, c2, c3, c4, Nat.le_refl _⟩
  have keep : ∀ {W W' : World}, Below W.heap.size W W' → (Below w.heap.size w W ∧ W.heap[w.heap.size]? = some (.cells (av a) 22) ∧ W.heap[w.heap.size + 1]? = some (.cells (av b) 22) ∧ W.heap[w1.heap.size]? = some (.cells (av xs) 22) ∧ W.heap[w3.heap.size]? = some (.cells (av xs) 22) ∧ w6.heap.size ≤ W.heap.size) →
      (Below w.heap.size w W' ∧ W'.heap[w.heap.size]? = some (.cells (av a) 22) ∧ W'.heap[w.heap.size + 1]? = some (.cells (av b) 22) ∧ W'.heap[w1.heap.size]? = some (.cells (av xs) 22) ∧ W'.heap[w3.heap.size]? = some (.cells (av xs) 22) ∧ w6.heap.size ≤ W'.heap.size) := by
    rintro W W' h ⟨q1, q2, q3, q4, q5, q6⟩
    have hs := h.size
    exact ⟨q1.trans (h.mono (by omega)), by rw [h.block _ (by omega)]; exact q2, by rw [h.block _ (by omega)]; exact q3, by rw [h.block _ (by omega)]; exact q4, by rw [h.block _ (by omega)]; exact q5, by omega⟩
  have ranges : ∀ {W : World}, (Below w.heap.size w W ∧ W.heap[w.heap.size]? = some (.cells (av a) 22) ∧ W.heap[w.heap.size + 1]? = some (.cells (av b) 22) ∧ W.heap[w1.heap.size]? = some (.cells (av xs) 22) ∧ W.heap[w3.heap.size]? = some (.cells (av xs) 22) ∧ w6.heap.size ≤ W.heap.size) →
      (W.rangeAt w.heap.size 0 (a.map (Value.int .u8)) ∧ W.rangeAt (w.heap.size + 1) 0 (b.map (Value.int .u8)) ∧ W.rangeAt w1.heap.size 0 (xs.map (Value.int .u8)) ∧ W.rangeAt w3.heap.size 0 (xs.map (Value.int .u8))) := fun h => ⟨rangeL h.2.1, rangeL h.2.2.1, rangeL h.2.2.2.1, rangeL h.2.2.2.2.1⟩
  obtain ⟨C, hC⟩ : ∃ C, canon s = C := ⟨_, rfl⟩
  rw [hC]
  clear c1 c2 c3 c4 hs3 hs5 hs6 hw1 hw2 hw4 hx hn h9 hB6 hz16 hC
  go_wp2
  refine wp_region_held_drew (S := fun w' => w'.rangeAt w.heap.size 0 (a.map (Value.int .u8)) ∧ w'.rangeAt (w.heap.size + 1) 0 (b.map (Value.int .u8)) ∧ w'.rangeAt w1.heap.size 0 (xs.map (Value.int .u8)) ∧ w'.rangeAt w3.heap.size 0 (xs.map (Value.int .u8))) (by kernel_rfl) (ranges hP6) (fun hHeld => ?_)
  refine wpAnyH_take (i := 0) (oi := _) (v := .agg (av xs)) rfl (by kernel_rfl) (by kernel_rfl) (by kernel_rfl) (fun _ _ _ h => h) (yieldsIf_load_mid (by rfl) _ _ rfl _ _ rfl _ _ (fun W h => h.2.2.1) hu rfl i3) hHeld ?_
  try simp only [Act.put, List.getElem_toArray, List.getElem_cons_zero, List.getElem_cons_succ, List.setIfInBounds_toArray, List.set_cons_zero, List.set_cons_succ]
  refine wpAnyH_take (i := 1) (oi := _) (v := .agg (av xs)) rfl (by kernel_rfl) (by kernel_rfl) (by kernel_rfl) (fun _ _ _ h => h) (yieldsIf_load_mid (by rfl) _ _ rfl _ _ rfl _ _ (fun W h => h.2.2.2) hu rfl i3) hHeld ?_
  try simp only [Act.put, List.getElem_toArray, List.getElem_cons_zero, List.getElem_cons_succ, List.setIfInBounds_toArray, List.set_cons_zero, List.set_cons_succ]
  refine wpAnyH_take (i := 2) (oi := _) (v := .bool true) rfl (by kernel_rfl) (by kernel_rfl) (by kernel_rfl) (fun _ _ _ h => h) (Or.inl ⟨by rfl, by intro W hW; clear hW; go_simp⟩) hHeld ?_
  try simp only [Act.put, List.getElem_toArray, List.getElem_cons_zero, List.getElem_cons_succ, List.setIfInBounds_toArray, List.set_cons_zero, List.set_cons_succ]
  refine wpAnyH_take (i := 3) (oi := _) (v := .bool true) rfl (by kernel_rfl) (by kernel_rfl) (by kernel_rfl) (fun _ _ _ h => h) (Or.inl ⟨by rfl, fun W _ => rfl⟩) hHeld ?_
  try simp only [Act.put, List.getElem_toArray, List.getElem_cons_zero, List.getElem_cons_succ, List.setIfInBounds_toArray, List.set_cons_zero, List.set_cons_succ]
  refine wpAnyH_take (i := 4) (oi := _) (v := .int .i64 n) rfl (by kernel_rfl) (by kernel_rfl) (by kernel_rfl) (fun _ _ _ h => h) (Or.inl ⟨by rfl, fun W _ => rfl⟩) hHeld ?_
  try simp only [Act.put, List.getElem_toArray, List.getElem_cons_zero, List.getElem_cons_succ, List.setIfInBounds_toArray, List.set_cons_zero, List.set_cons_succ]
  refine wpAnyH_take (i := 5) (oi := _) (v := .int .i64 n) rfl (by kernel_rfl) (by kernel_rfl) (by kernel_rfl) (fun _ _ _ h => h) (Or.inl ⟨by rfl, fun W _ => rfl⟩) hHeld ?_
  try simp only [Act.put, List.getElem_toArray, List.getElem_cons_zero, List.getElem_cons_succ, List.setIfInBounds_toArray, List.set_cons_zero, List.set_cons_succ]
  refine wpAnyH_take (i := 6) (oi := _) (v := .bool true) rfl (by kernel_rfl) (by kernel_rfl) (by kernel_rfl) (fun _ _ _ h => h) (Or.inl ⟨by rfl, by intro W hW; clear hW; go_simp⟩) hHeld ?_
  try simp only [Act.put, List.getElem_toArray, List.getElem_cons_zero, List.getElem_cons_succ, List.setIfInBounds_toArray, List.set_cons_zero, List.set_cons_succ]
  refine wpAnyH_take (i := 7) (oi := _) (v := .bool true) rfl (by kernel_rfl) (by kernel_rfl) (by kernel_rfl) (fun _ _ _ h => h) (Or.inl ⟨by rfl, fun W _ => rfl⟩) hHeld ?_
  try simp only [Act.put, List.getElem_toArray, List.getElem_cons_zero, List.getElem_cons_succ, List.setIfInBounds_toArray, List.set_cons_zero, List.set_cons_succ]
  refine wpAnyH_take (i := 8) (oi := _) (v := .bool true) rfl (by kernel_rfl) (by kernel_rfl) (by kernel_rfl) (fun _ _ _ h => h) (Or.inl ⟨by rfl, fun W _ => rfl⟩) hHeld ?_
  try simp only [Act.put, List.getElem_toArray, List.getElem_cons_zero, List.getElem_cons_succ, List.setIfInBounds_toArray, List.set_cons_zero, List.set_cons_succ]
  refine wpAnyH_take (i := 9) (oi := _) (v := .string C) rfl (by kernel_rfl) (by kernel_rfl) (by kernel_rfl) (fun _ _ _ h => h) (Or.inl ⟨by rfl, fun W _ => rfl⟩) hHeld ?_
  try simp only [Act.put, List.getElem_toArray, List.getElem_cons_zero, List.getElem_cons_succ, List.setIfInBounds_toArray, List.set_cons_zero, List.set_cons_succ]
  refine wpAnyH_take (i := 10) (oi := _) (v := .string C) rfl (by kernel_rfl) (by kernel_rfl) (by kernel_rfl) (fun _ _ _ h => h) (Or.inl ⟨by rfl, fun W _ => rfl⟩) hHeld ?_
  try simp only [Act.put, List.getElem_toArray, List.getElem_cons_zero, List.getElem_cons_succ, List.setIfInBounds_toArray, List.set_cons_zero, List.set_cons_succ]
  refine wpAnyH_take (i := 11) (oi := _) (v := .bool true) rfl (by kernel_rfl) (by kernel_rfl) (by kernel_rfl) (fun _ _ _ h => h) (Or.inl ⟨by rfl, by intro W hW; clear hW; go_simp⟩) hHeld ?_
  try simp only [Act.put, List.getElem_toArray, List.getElem_cons_zero, List.getElem_cons_succ, List.setIfInBounds_toArray, List.set_cons_zero, List.set_cons_succ]
  refine wpAnyH_take (i := 12) (oi := _) (v := .bool true) rfl (by kernel_rfl) (by kernel_rfl) (by kernel_rfl) (fun _ _ _ h => h) (Or.inl ⟨by rfl, fun W _ => rfl⟩) hHeld ?_
  try simp only [Act.put, List.getElem_toArray, List.getElem_cons_zero, List.getElem_cons_succ, List.setIfInBounds_toArray, List.set_cons_zero, List.set_cons_succ]
  refine wpAnyH_take (i := 13) (oi := _) (v := .bool true) rfl (by kernel_rfl) (by kernel_rfl) (by kernel_rfl) (fun _ _ _ h => h) (Or.inl ⟨by rfl, fun W _ => rfl⟩) hHeld ?_
  try simp only [Act.put, List.getElem_toArray, List.getElem_cons_zero, List.getElem_cons_succ, List.setIfInBounds_toArray, List.set_cons_zero, List.set_cons_succ]
  refine wpAnyH_take (i := 14) (oi := _) (v := .int .i64 n) rfl (by kernel_rfl) (by kernel_rfl) (by kernel_rfl) (fun _ _ _ h => h) (Or.inl ⟨by rfl, fun W _ => rfl⟩) hHeld ?_
  try simp only [Act.put, List.getElem_toArray, List.getElem_cons_zero, List.getElem_cons_succ, List.setIfInBounds_toArray, List.set_cons_zero, List.set_cons_succ]
  refine wpAnyH_take (i := 15) (oi := _) (v := .int .i64 n) rfl (by kernel_rfl) (by kernel_rfl) (by kernel_rfl) (fun _ _ _ h => h) (Or.inl ⟨by rfl, fun W _ => rfl⟩) hHeld ?_
  try simp only [Act.put, List.getElem_toArray, List.getElem_cons_zero, List.getElem_cons_succ, List.setIfInBounds_toArray, List.set_cons_zero, List.set_cons_succ]
  refine wpAnyH_take (i := 16) (oi := _) (v := .bool true) rfl (by kernel_rfl) (by kernel_rfl) (by kernel_rfl) (fun _ _ _ h => h) (Or.inl ⟨by rfl, by intro W hW; clear hW; go_simp⟩) hHeld ?_
  try simp only [Act.put, List.getElem_toArray, List.getElem_cons_zero, List.getElem_cons_succ, List.setIfInBounds_toArray, List.set_cons_zero, List.set_cons_succ]
  refine wpAnyH_take (i := 17) (oi := _) (v := .bool true) rfl (by kernel_rfl) (by kernel_rfl) (by kernel_rfl) (fun _ _ _ h => h) (Or.inl ⟨by rfl, fun W _ => rfl⟩) hHeld ?_
  try simp only [Act.put, List.getElem_toArray, List.getElem_cons_zero, List.getElem_cons_succ, List.setIfInBounds_toArray, List.set_cons_zero, List.set_cons_succ]
  refine wpAnyH_take (i := 18) (oi := _) (v := .bool true) rfl (by kernel_rfl) (by kernel_rfl) (by kernel_rfl) (fun _ _ _ h => h) (Or.inl ⟨by rfl, fun W _ => rfl⟩) hHeld ?_
  try simp only [Act.put, List.getElem_toArray, List.getElem_cons_zero, List.getElem_cons_succ, List.setIfInBounds_toArray, List.set_cons_zero, List.set_cons_succ]
  refine wpAnyH_take (i := 19) (oi := _) (v := .agg (av a)) rfl (by kernel_rfl) (by kernel_rfl) (by kernel_rfl) (fun _ _ _ h => h) (yieldsIf_load_mid (by rfl) _ _ rfl _ _ rfl _ _ (fun W h => h.1) hu rfl i1) hHeld ?_
  try simp only [Act.put, List.getElem_toArray, List.getElem_cons_zero, List.getElem_cons_succ, List.setIfInBounds_toArray, List.set_cons_zero, List.set_cons_succ]
  refine wpAnyH_take (i := 21) (oi := _) (v := .agg (av a)) rfl (by kernel_rfl) (by kernel_rfl) (by kernel_rfl) (fun _ _ _ h => h) (yieldsIf_load_mid (by rfl) _ _ rfl _ _ rfl _ _ (fun W h => h.1) hu rfl i1) hHeld ?_
  try simp only [Act.put, List.getElem_toArray, List.getElem_cons_zero, List.getElem_cons_succ, List.setIfInBounds_toArray, List.set_cons_zero, List.set_cons_succ]
  refine wpAnyH_ready (rs := [20]) (by kernel_rfl) (by simp) ?_
  refine AllReadyH.cons (o := _) rfl (fun K hK => ?_) AllReadyH.nil
  go_simp
  refine (text_any a _ ha ha9).mono ?_
  rintro e w7 ⟨rfl, hbw7⟩
  have hP7 := keep hbw7 hP6
  clear hHeld
  refine hK.out _ _ (ranges hP7) (fun hHeld => ?_)
  clear hK K
  try simp only [Act.put, List.getElem_toArray, List.getElem_cons_zero, List.getElem_cons_succ, List.setIfInBounds_toArray, List.set_cons_zero, List.set_cons_succ]
  refine wpAnyH_ready (rs := [22]) (by kernel_rfl) (by simp) ?_
  refine AllReadyH.cons (o := _) rfl (fun K hK => ?_) AllReadyH.nil
  go_simp
  refine (reftext_any a _ ha ha9).mono ?_
  rintro e w8 ⟨rfl, hbw8⟩
  have hP8 := keep hbw8 hP7
  clear hHeld
  refine hK.out _ _ (ranges hP8) (fun hHeld => ?_)
  clear hK K
  try simp only [Act.put, List.getElem_toArray, List.getElem_cons_zero, List.getElem_cons_succ, List.setIfInBounds_toArray, List.set_cons_zero, List.set_cons_succ]
  refine wpAnyH_take (i := 23) (oi := _) (v := .bool true) rfl (by kernel_rfl) (by kernel_rfl) (by kernel_rfl) (fun _ _ _ h => h) (Or.inl ⟨by rfl, by intro W hW; clear hW; go_simp⟩) hHeld ?_
  try simp only [Act.put, List.getElem_toArray, List.getElem_cons_zero, List.getElem_cons_succ, List.setIfInBounds_toArray, List.set_cons_zero, List.set_cons_succ]
  refine wpAnyH_take (i := 24) (oi := _) (v := .bool true) rfl (by kernel_rfl) (by kernel_rfl) (by kernel_rfl) (fun _ _ _ h => h) (Or.inl ⟨by rfl, fun W _ => rfl⟩) hHeld ?_
  try simp only [Act.put, List.getElem_toArray, List.getElem_cons_zero, List.getElem_cons_succ, List.setIfInBounds_toArray, List.set_cons_zero, List.set_cons_succ]
  refine wpAnyH_take (i := 25) (oi := _) (v := .bool true) rfl (by kernel_rfl) (by kernel_rfl) (by kernel_rfl) (fun _ _ _ h => h) (Or.inl ⟨by rfl, fun W _ => rfl⟩) hHeld ?_
  try simp only [Act.put, List.getElem_toArray, List.getElem_cons_zero, List.getElem_cons_succ, List.setIfInBounds_toArray, List.set_cons_zero, List.set_cons_succ]
  refine wpAnyH_take (i := 26) (oi := _) (v := .agg (av a)) rfl (by kernel_rfl) (by kernel_rfl) (by kernel_rfl) (fun _ _ _ h => h) (yieldsIf_load_mid (by rfl) _ _ rfl _ _ rfl _ _ (fun W h => h.1) hu rfl i1) hHeld ?_
  try simp only [Act.put, List.getElem_toArray, List.getElem_cons_zero, List.getElem_cons_succ, List.setIfInBounds_toArray, List.set_cons_zero, List.set_cons_succ]
  refine wpAnyH_take (i := 27) (oi := _) (v := .agg (av b)) rfl (by kernel_rfl) (by kernel_rfl) (by kernel_rfl) (fun _ _ _ h => h) (yieldsIf_load_mid (by rfl) _ _ rfl _ _ rfl _ _ (fun W h => h.2.1) hu rfl i2) hHeld ?_
  try simp only [Act.put, List.getElem_toArray, List.getElem_cons_zero, List.getElem_cons_succ, List.setIfInBounds_toArray, List.set_cons_zero, List.set_cons_succ]
  refine wpAnyH_take (i := 29) (oi := _) (v := .agg (av a)) rfl (by kernel_rfl) (by kernel_rfl) (by kernel_rfl) (fun _ _ _ h => h) (yieldsIf_load_mid (by rfl) _ _ rfl _ _ rfl _ _ (fun W h => h.1) hu rfl i1) hHeld ?_
  try simp only [Act.put, List.getElem_toArray, List.getElem_cons_zero, List.getElem_cons_succ, List.setIfInBounds_toArray, List.set_cons_zero, List.set_cons_succ]
  refine wpAnyH_take (i := 30) (oi := _) (v := .agg (av b)) rfl (by kernel_rfl) (by kernel_rfl) (by kernel_rfl) (fun _ _ _ h => h) (yieldsIf_load_mid (by rfl) _ _ rfl _ _ rfl _ _ (fun W h => h.2.1) hu rfl i2) hHeld ?_
  try simp only [Act.put, List.getElem_toArray, List.getElem_cons_zero, List.getElem_cons_succ, List.setIfInBounds_toArray, List.set_cons_zero, List.set_cons_succ]
  refine wpAnyH_ready (rs := [28]) (by kernel_rfl) (by simp) ?_
  refine AllReadyH.cons (o := _) rfl (fun K hK => ?_) AllReadyH.nil
  go_simp
  refine (compare_any a b _ ha hb ha9 hb9).mono ?_
  rintro e w9 ⟨rfl, hbw9⟩
  have hP9 := keep hbw9 hP8
  clear hHeld
  refine hK.out _ _ (ranges hP9) (fun hHeld => ?_)
  clear hK K
  try simp only [Act.put, List.getElem_toArray, List.getElem_cons_zero, List.getElem_cons_succ, List.setIfInBounds_toArray, List.set_cons_zero, List.set_cons_succ]
  refine wpAnyH_ready (rs := [31]) (by kernel_rfl) (by simp) ?_
  refine AllReadyH.cons (o := _) rfl (fun K hK => ?_) AllReadyH.nil
  go_simp
  refine (refcompare_any a b _ ha hb ha9 hb9).mono ?_
  rintro e w10 ⟨rfl, hbw10⟩
  have hP10 := keep hbw10 hP9
  clear hHeld
  refine hK.out _ _ (ranges hP10) (fun hHeld => ?_)
  clear hK K
  try simp only [Act.put, List.getElem_toArray, List.getElem_cons_zero, List.getElem_cons_succ, List.setIfInBounds_toArray, List.set_cons_zero, List.set_cons_succ]
  refine wpAnyH_take (i := 32) (oi := _) (v := .bool true) rfl (by kernel_rfl) (by kernel_rfl) (by kernel_rfl) (fun _ _ _ h => h) (Or.inl ⟨by rfl, by intro W hW; clear hW; go_simp⟩) hHeld ?_
  try simp only [Act.put, List.getElem_toArray, List.getElem_cons_zero, List.getElem_cons_succ, List.setIfInBounds_toArray, List.set_cons_zero, List.set_cons_succ]
  refine wpAnyH_take (i := 33) (oi := _) (v := .bool true) rfl (by kernel_rfl) (by kernel_rfl) (by kernel_rfl) (fun _ _ _ h => h) (Or.inl ⟨by rfl, fun W _ => rfl⟩) hHeld ?_
  try simp only [Act.put, List.getElem_toArray, List.getElem_cons_zero, List.getElem_cons_succ, List.setIfInBounds_toArray, List.set_cons_zero, List.set_cons_succ]
  refine wpAnyH_take (i := 34) (oi := _) (v := .bool true) rfl (by kernel_rfl) (by kernel_rfl) (by kernel_rfl) (fun _ _ _ h => h) (Or.inl ⟨by rfl, fun W _ => rfl⟩) hHeld ?_
  try simp only [Act.put, List.getElem_toArray, List.getElem_cons_zero, List.getElem_cons_succ, List.setIfInBounds_toArray, List.set_cons_zero, List.set_cons_succ]
  refine wpAnyH_done (by kernel_rfl) ?_ _
  go_wp2
  go_ret
  exact ⟨rfl, hP10.1⟩
theorem own : ownKnob Try.prog.godebug = none := by kernel_rfl
theorem laidOut : laidOutB Try.prog = true := by kernel_rfl
set_option maxRecDepth 100000 in
theorem lifted (os : Os) (started : os.Started) (H : Type) (enc : TypeId × Value → H) :
    ReturnsInHanded {} Try.checked os 6 .any (Rows.uuidTellsSpec.pre6 enc Try.prog Try.f6 Rows.uuidTellsRow.domain false) (Rows.uuidTellsSpec.post enc Try.prog Try.f6 false true false false) := by
  refine returnsInHanded_of_change_shaped (C := Try.checked) own started (by kernel_rfl) Try.func6
    (ChangeSpec.witness6 (enc := enc) (C := Try.checked) false ⟨#[], #[.string ⟨#[]⟩, .agg #[.int .u8 0, .int .u8 0, .int .u8 0, .int .u8 0, .int .u8 0, .int .u8 0, .int .u8 0, .int .u8 0, .int .u8 0, .int .u8 0, .int .u8 0, .int .u8 0, .int .u8 0, .int .u8 0, .int .u8 0, .int .u8 0], .agg #[.int .u8 0, .int .u8 0, .int .u8 0, .int .u8 0, .int .u8 0, .int .u8 0, .int .u8 0, .int .u8 0, .int .u8 0, .int .u8 0, .int .u8 0, .int .u8 0, .int .u8 0, .int .u8 0, .int .u8 0, .int .u8 0]], []⟩ 8 (by kernel_rfl) (by kernel_rfl) (by kernel_rfl) (by kernel_rfl)) ?_
  intro W base args ds gs before hval0 hW _ hsz0 hsh0 _
  have hsh : W.ShapedOpen Try.prog := hsh0
  have hsz : (DataW.weightsEach Try.prog (Try.f6.params.toList ++ Rows.uuidTellsSpec.plain.varTypes Try.prog) (ds ++ gs)).all (· ≤ reachBytes) = true := hsz0
  clear hsz0 hsh0
  have hval : ∀ (j : Nat) t v, Try.f6.params[j]? = some t → args[j]? = some v → Value.okWide Try.prog W .any base t v := hval0
  have hW' := hW
  obtain ⟨p, q, hA0, hV, rfl, hfz, hnd⟩ := hW
  have hA : DataW.TrodAll enc Try.prog W 0 (fun _ => true) true Try.f6.params.toList args.toList ds p := hA0
  rw [Try.params6] at hA hval hsz
  have hlt0 : ∀ x ∈ p, x.block < W.heap.size := fun x hx => hW'.lt x (by simp [hx])
  obtain ⟨v0, vs0, d0, ds0, p0, q0, hargs, rfl, rfl, h0, r0⟩ := trodAll_cons hA
  obtain ⟨v1, vs1, d1, ds1, p1, q1, rfl, rfl, rfl, h1, r1⟩ := trodAll_cons r0
  obtain ⟨v2, vs2, d2, ds2, p2, q2, rfl, rfl, rfl, h2, r2⟩ := trodAll_cons r1
  obtain ⟨rfl, rfl, rfl⟩ := trodAll_nil r2
  obtain rfl : args = #[v0, v1, v2] := by cases args; simp_all
  obtain ⟨rfl, rfl⟩ := trodVars_none hV
  obtain ⟨s, rfl, rfl, rfl, ws⟩ := open_string Try.underlying9 (hval 0 9 v0 rfl rfl) h0
  have rs : s.size ≤ 140737488351232 := by
    have := sized_string hsz (j := 0) rfl rfl
    simpa [reachBytes] using this
  obtain ⟨a, rfl, la, ha⟩ := open_arr16 (hval 1 22 v1 rfl rfl) h1
  obtain ⟨b, rfl, lb, hb⟩ := open_arr16 (hval 2 22 v2 rfl rfl) h2
  clear hA0 hval0
  refine (walk s a b W ws la lb ha hb).mono fun e W' ⟨he, hb⟩ => ⟨_, he, ?_⟩
  exact law_post laidOut (of_decide_eq_true (by kernel_rfl)) rfl rfl Try.underlying4 (fun ds hl => by
    match ds, hl with
    | [_, _, _], _ => rfl) hW' hb

theorem proved : Rows.UuidTellsSaid :=
  OpenClaim.holds_of_wide 6 Try.f6 rfl rfl rfl rfl rfl rfl rfl ⟨rfl, rfl, rfl, rfl, rfl⟩ rfl rfl rfl rfl rfl (by kernel_rfl) Try.func6 (by kernel_rfl)
    (of_decide_eq_true (by kernel_rfl)) (by unfold Func.isWrapper; first | (rw [if_pos (by decide +kernel)]; kernel_rfl) | (rw [if_neg (by decide +kernel)]; exact ⟨rfl, rfl⟩))
    (fun os started H enc _ => lifted os started H enc)
end Go.Proofs.Ytbigpcpifbjkfaa.uuidTells
