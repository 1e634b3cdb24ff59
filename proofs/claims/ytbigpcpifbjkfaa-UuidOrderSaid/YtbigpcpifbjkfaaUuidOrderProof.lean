/- UuidOrder: the order of two UUIDs is that of their texts; a byte more turns it so: the call returns true. Conditions: none. -/
import Derived.Test.YtbigpcpifbjkfaaRows
import Derived.Test.YtbigpcpifbjkfaaUuidLess
import Derived.Lib.Strings
namespace Go.Proofs.Ytbigpcpifbjkfaa.uuidOrder
open Go.ChangeShapes Go.WideShapes Go.ChangeAt Go.RowKit
open Go.ChangeMaps (open_string shut_string)
theorem rangeL {w : World} {b : Nat} {xs : List Int} {t : TypeId} (h : w.heap[b]? = some (.cells (av xs) t)) : w.rangeAt b 0 (xs.map (Value.int .u8)) := range16 h
theorem lenL {xs : List Int} (h : xs.length = 16) : (Try.prog.info? 22).map (·.size) = some (xs.map (Value.int .u8)).length := len16 h
set_option maxHeartbeats 2000000 in
theorem walk (a b : List Int) (i : Int) (w : World) (ha : a.length = 16) (hb : b.length = 16) (ha9 : ∀ x ∈ a, 0 ≤ x ∧ x < 256) (hb9 : ∀ x ∈ b, 0 ≤ x ∧ x < 256) (hi : 0 ≤ i ∧ i < 256) :
    Calls Try.prog 3 #[.agg (av a), .agg (av b), .int .u8 i] w fun e w' => e = .returned (.bool true) ∧ Below w.heap.size w w' := by
  have hl0 : zero16.length = 16 := rfl
  obtain ⟨hz, hB0, c1, c2⟩ := two_boxes w a b 22
  go_enter Try.func3, Try.ntmps3
  go_wp2_with fail
  refine (alive_any _).mono ?_
  rintro e w1 ⟨rfl, hb1⟩
  have hs1 := hb1.size
  replace c1 : w1.heap[w.heap.size]? = some (.cells (av a) 22) := by rw [hb1.block _ (by omega)]; exact c1
  replace c2 : w1.heap[w.heap.size + 1]? = some (.cells (av b) 22) := by rw [hb1.block _ (by omega)]; exact c2
  have hB1 : Below w.heap.size w w1 := hB0.trans (hb1.mono (by omega))
  have hlt1 : w.heap.size + 1 < w1.heap.size := by omega
  clear hB0 hb1 hs1 hz
  go_wp2_with (first | (refine wpList_load16g rfl _ rfl w.heap.size a 22 rfl c1 ha ?_) | (refine wpList_load16g rfl _ rfl (w.heap.size + 1) b 22 rfl c2 hb ?_))
  refine (compare_any a b _ ha hb ha9 hb9).mono ?_
  rintro e w2 ⟨rfl, hb2⟩
  have hs2 := hb2.size
  replace c1 : w2.heap[w.heap.size]? = some (.cells (av a) 22) := by rw [hb2.block _ (by omega)]; exact c1
  replace c2 : w2.heap[w.heap.size + 1]? = some (.cells (av b) 22) := by rw [hb2.block _ (by omega)]; exact c2
  have hB2 : Below w.heap.size w w2 := hB1.trans (hb2.mono (by omega))
  have hlt2 : w.heap.size + 1 < w2.heap.size := by omega
  clear hB1 hb2 hs2 hlt1
  have hP2 : Below w.heap.size w w2.drew ∧ w2.drew.heap[w.heap.size]? = some (.cells (av a) 22) ∧ w2.drew.heap[w.heap.size + 1]? = some (.cells (av b) 22) ∧ w.heap.size + 1 < w2.drew.heap.size := ⟨hB2.drew, c1, c2, hlt2⟩
  have keep : ∀ {W W' : World}, Below W.heap.size W W' → (Below w.heap.size w W ∧ W.heap[w.heap.size]? = some (.cells (av a) 22) ∧ W.heap[w.heap.size + 1]? = some (.cells (av b) 22) ∧ w.heap.size + 1 < W.heap.size) →
      (Below w.heap.size w W' ∧ W'.heap[w.heap.size]? = some (.cells (av a) 22) ∧ W'.heap[w.heap.size + 1]? = some (.cells (av b) 22) ∧ w.heap.size + 1 < W'.heap.size) := by
    rintro W W' h ⟨q1, q2, q3, q4⟩
    have hs := h.size
    exact ⟨q1.trans (h.mono (by omega)), by rw [h.block _ (by omega)]; exact q2, by rw [h.block _ (by omega)]; exact q3, by omega⟩
  have hu := Try.underlying22
  have i1 := lenL ha
  have i2 := lenL hb
  have hS2 : w2.drew.rangeAt w.heap.size 0 (a.map (Value.int .u8)) ∧ w2.drew.rangeAt (w.heap.size + 1) 0 (b.map (Value.int .u8)) := ⟨rangeL c1, rangeL c2⟩
  clear c1 c2 hB2 hlt2
  go_wp2
  refine wp_region_held_drew (S := fun w' => w'.rangeAt w.heap.size 0 (a.map (Value.int .u8)) ∧ w'.rangeAt (w.heap.size + 1) 0 (b.map (Value.int .u8))) (by kernel_rfl) hS2 (fun hHeld => ?_)
  refine wpAnyH_take (i := 0) (oi := _) (v := .agg (av a)) rfl (by kernel_rfl) (by kernel_rfl) (by kernel_rfl) (fun _ _ _ h => h) (yieldsIf_load_mid (by rfl) _ _ rfl _ _ rfl _ _ (fun W h => h.1) hu rfl i1) hHeld ?_
  simp only [Act.put, List.setIfInBounds_toArray, List.set_cons_zero, List.set_cons_succ]
  refine wpAnyH_take (i := 2) (oi := _) (v := .agg (av b)) rfl (by kernel_rfl) (by kernel_rfl) (by kernel_rfl) (fun _ _ _ h => h) (yieldsIf_load_mid (by rfl) _ _ rfl _ _ rfl _ _ (fun W h => h.2) hu rfl i2) hHeld ?_
  simp only [Act.put, List.setIfInBounds_toArray, List.set_cons_zero, List.set_cons_succ]
  refine wpAnyH_ready (rs := [1]) (by kernel_rfl) (by simp) ?_
  refine AllReadyH.cons (o := _) rfl (fun K hK => ?_) AllReadyH.nil
  go_simp
  refine (text_any a _ ha ha9).mono ?_
  rintro e w3 ⟨rfl, hb3⟩
  have hP3 := keep hb3 hP2
  refine hK.out _ _ ⟨rangeL hP3.2.1, rangeL hP3.2.2.1⟩ (fun hHeld3 => ?_)
  clear hK K
  refine wpAnyH_ready (rs := [3]) (by kernel_rfl) (by simp) ?_
  refine AllReadyH.cons (o := _) rfl (fun K hK => ?_) AllReadyH.nil
  go_simp
  refine (text_any b _ hb hb9).mono ?_
  rintro e w4 ⟨rfl, hb4⟩
  have hP4 := keep hb4 hP3
  refine hK.out _ _ ⟨rangeL hP4.2.1, rangeL hP4.2.2.1⟩ (fun hHeld4 => ?_)
  clear hK K
  refine wpAnyH_take (i := 4) (oi := _) (v := .string (strOfNums (txt a))) rfl (by kernel_rfl) (by kernel_rfl) (by kernel_rfl) (fun _ _ _ h => h) (Or.inl ⟨by rfl, fun W _ => rfl⟩) hHeld4 ?_
  simp only [Act.put, List.setIfInBounds_toArray, List.set_cons_zero, List.set_cons_succ]
  refine wpAnyH_take (i := 5) (oi := _) (v := .string (strOfNums (txt b))) rfl (by kernel_rfl) (by kernel_rfl) (by kernel_rfl) (fun _ _ _ h => h) (Or.inl ⟨by rfl, fun W _ => rfl⟩) hHeld4 ?_
  simp only [Act.put, List.setIfInBounds_toArray, List.set_cons_zero, List.set_cons_succ]
  refine wpAnyH_done (by kernel_rfl) ?_ _
  obtain ⟨hB, c1, c2, hlt⟩ := hP4
  clear hHeld hHeld3 hHeld4 hS2 hP2 hP3 hb3 hb4 keep hu i1 i2
  have hlss := less_txt a b ha hb ha9 hb9
  have heq := cmp_eq a b (by rw [ha, hb])
  have hneg := cmp_neg a b (by rw [ha, hb])
  have hrg := cmp_rng a b
  obtain ⟨n, hn⟩ : ∃ n, cmpI a b = n := ⟨_, rfl⟩
  rw [hn] at hlss heq hneg hrg ⊢
  go_wp2_with (first | (refine wpList_load16g rfl _ rfl w.heap.size a 22 rfl c1 ha ?_) | (refine wpList_load16g rfl _ rfl (w.heap.size + 1) b 22 rfl c2 hb ?_))
  refine (compare_any b a _ hb ha hb9 ha9).mono ?_
  rintro e w5 ⟨rfl, hb5⟩
  rw [hneg]
  have hz16 := fold0
  have hs5 := hb5.size
  replace c1 : w5.heap[w.heap.size]? = some (.cells (av a) 22) := by rw [hb5.block _ (by omega)]; exact c1
  have hB5 : Below w.heap.size w w5 := hB.trans (hb5.mono (by omega))
  have z5 : (w5.alloc (.cells (av zero16) 22)).heap[w5.heap.size]? = some (.cells (av zero16) 22) := heap_alloc_new _ _
  obtain ⟨hB6, hb6, d6, hw6⟩ := put16 a hB5
  obtain ⟨W6, hW6⟩ : ∃ W6, (w5.alloc (.cells (av zero16) 22)).setRow w5.heap.size (av a) = W6 := ⟨_, rfl⟩
  have e6 : ((w5.alloc (.cells (av zero16) 22)).setRow w5.heap.size (av a)).heap[w.heap.size]? = some (.cells (av a) 22) := by rw [hb6.block _ (by omega)]; exact c1
  rw [hW6] at hB6 hb6 d6 hw6 e6
  have hlw : w.heap.size < w5.heap.size := by omega
  obtain ⟨kn, hkn⟩ : ∃ kn : Nat, i % 16 = (kn : Int) := ⟨(i % 16).toNat, by omega⟩
  have hk16 : kn < 16 := by omega
  have hkl : kn < a.length := by omega
  have hki : (kn : Int) < 16 := by omega
  have hcell6 := av_cell d6 kn hkl
  have hfz6 : W6.frozen? ⟨w5.heap.size, kn, none⟩ = false := by simp [World.frozen?, d6]
  obtain ⟨x, hx⟩ : ∃ x, a.getD kn 0 = x := ⟨_, rfl⟩
  have hxr := ha9 (a.getD kn 0) (by rw [List.getD, List.getElem?_eq_getElem hkl]; exact List.getElem_mem _)
  rw [hx] at hcell6 hxr
  clear hB5 hB hb5 hb6 hs5 hneg heq hlss c2
  by_cases h255 : x = 255
  · subst h255
    have hw9 : IntKind.u8.wrap (255 + 1) = 0 := by rw [IntKind.wrap_u8]; rfl
    have hrow : (av a).setIfInBounds kn (.int .u8 0) = av (a.set kn 0) := av_set a kn 0
    have hl7 : (a.set kn 0).length = 16 := by rw [List.length_set]; exact ha
    obtain ⟨W7, hW7⟩ : ∃ W7, W6.setCell ⟨w5.heap.size, kn, none⟩ (.int .u8 0) = W7 := ⟨_, rfl⟩
    have d7 : W7.heap[w5.heap.size]? = some (.cells (av (a.set kn 0)) 22) := by
      rw [← hW7]
      simp [World.setCell, Array.getElem?_modify, d6, hrow]
    have e7 : W7.heap[w.heap.size]? = some (.cells (av a) 22) := by
      rw [← hW7]
      simp only [World.setCell, Array.getElem?_modify]
      rw [if_neg (by omega)]
      exact e6
    have g7 : Below w.heap.size w W7 := by
      rw [← hW7]
      exact hB6.setCell (Nat.le_of_lt hlw) _
    have hcell7 : W7.cell? ⟨w5.heap.size, kn, none⟩ = some (.int .u8 0) := by
      rw [cell_of_row W7 w5.heap.size kn _ _ _ d7]
      simp [av, hkl]
    clear hrow
    go_wp2_with (first | (refine wpList_load16g rfl _ rfl w.heap.size a 22 rfl c1 ha ?_) | (refine wpList_store16 rfl _ _ rfl w5.heap.size zero16 a 22 rfl rfl z5 hl0 ha ?_))
    go_ret
    exact ⟨ret_bool (by simp), g7⟩
  · have hmore := cmp_more a kn (x + 1) hkl (by omega)
    have hw9 : IntKind.u8.wrap (x + 1) = (x + 1) := by rw [IntKind.wrap_u8]; omega
    have hrow : (av a).setIfInBounds kn (.int .u8 (x + 1)) = av (a.set kn (x + 1)) := av_set a kn (x + 1)
    have hl7 : (a.set kn (x + 1)).length = 16 := by rw [List.length_set]; exact ha
    obtain ⟨W7, hW7⟩ : ∃ W7, W6.setCell ⟨w5.heap.size, kn, none⟩ (.int .u8 (x + 1)) = W7 := ⟨_, rfl⟩
    have d7 : W7.heap[w5.heap.size]? = some (.cells (av (a.set kn (x + 1))) 22) := by
      rw [← hW7]
      simp [World.setCell, Array.getElem?_modify, d6, hrow]
    have e7 : W7.heap[w.heap.size]? = some (.cells (av a) 22) := by
      rw [← hW7]
      simp only [World.setCell, Array.getElem?_modify]
      rw [if_neg (by omega)]
      exact e6
    have g7 : Below w.heap.size w W7 := by
      rw [← hW7]
      exact hB6.setCell (Nat.le_of_lt hlw) _
    have hcell7 : W7.cell? ⟨w5.heap.size, kn, none⟩ = some (.int .u8 (x + 1)) := by
      rw [cell_of_row W7 w5.heap.size kn _ _ _ d7]
      simp [av, hkl]
    clear hrow
    have h79 : ∀ q ∈ a.set kn (x + 1), 0 ≤ q ∧ q < 256 := by
      intro q hq
      rcases List.mem_or_eq_of_mem_set hq with h | h
      · exact ha9 q h
      · omega
    have hx0 : (x + 1 == 0) = false := by rw [beq_eq_false_iff_ne]; omega
    go_wp2_with (first | (refine wpList_load16g rfl _ rfl w.heap.size a 22 rfl c1 ha ?_) | (refine wpList_store16 rfl _ _ rfl w5.heap.size zero16 a 22 rfl rfl z5 hl0 ha ?_) | (refine wpList_load16g rfl _ rfl w.heap.size a 22 rfl e7 ha ?_) | (refine wpList_load16g rfl _ rfl w5.heap.size (a.set kn (x + 1)) 22 rfl d7 hl7 ?_))
    refine (compare_any a (a.set kn (x + 1)) _ ha hl7 ha9 h79).mono ?_
    rintro e w8 ⟨rfl, hb8⟩
    rw [hmore]
    go_wp2
    go_ret
    exact ⟨ret_bool (by simp), g7.trans (hb8.mono g7.size)⟩
theorem own : ownKnob Try.prog.godebug = none := by kernel_rfl
theorem laidOut : laidOutB Try.prog = true := by kernel_rfl
set_option maxRecDepth 100000 in
theorem lifted (os : Os) (started : os.Started) (H : Type) (enc : TypeId × Value → H) :
    ReturnsInHanded {} Try.checked os 3 .any (Rows.uuidOrderSpec.pre6 enc Try.prog Try.f3 Rows.uuidOrderRow.domain false) (Rows.uuidOrderSpec.post enc Try.prog Try.f3 false true false false) := by
  refine returnsInHanded_of_change_shaped (C := Try.checked) own started (by kernel_rfl) Try.func3
    (ChangeSpec.witness6 (enc := enc) (C := Try.checked) false ⟨#[], #[.agg #[.int .u8 0, .int .u8 0, .int .u8 0, .int .u8 0, .int .u8 0, .int .u8 0, .int .u8 0, .int .u8 0, .int .u8 0, .int .u8 0, .int .u8 0, .int .u8 0, .int .u8 0, .int .u8 0, .int .u8 0, .int .u8 0], .agg #[.int .u8 0, .int .u8 0, .int .u8 0, .int .u8 0, .int .u8 0, .int .u8 0, .int .u8 0, .int .u8 0, .int .u8 0, .int .u8 0, .int .u8 0, .int .u8 0, .int .u8 0, .int .u8 0, .int .u8 0, .int .u8 0], .int .u8 0], []⟩ 8 (by kernel_rfl) (by kernel_rfl) (by kernel_rfl) (by kernel_rfl)) ?_
  intro W base args ds gs before hval0 hW _ hsz0 hsh0 _
  have hsh : W.ShapedOpen Try.prog := hsh0
  have hsz : (DataW.weightsEach Try.prog (Try.f3.params.toList ++ Rows.uuidOrderSpec.plain.varTypes Try.prog) (ds ++ gs)).all (· ≤ reachBytes) = true := hsz0
  clear hsz0 hsh0
  have hval : ∀ (j : Nat) t v, Try.f3.params[j]? = some t → args[j]? = some v → Value.okWide Try.prog W .any base t v := hval0
  have hW' := hW
  obtain ⟨p, q, hA0, hV, rfl, hfz, hnd⟩ := hW
  have hA : DataW.TrodAll enc Try.prog W 0 (fun _ => true) true Try.f3.params.toList args.toList ds p := hA0
  rw [Try.params3] at hA hval hsz
  have hlt0 : ∀ x ∈ p, x.block < W.heap.size := fun x hx => hW'.lt x (by simp [hx])
  obtain ⟨v0, vs0, d0, ds0, p0, q0, hargs, rfl, rfl, h0, r0⟩ := trodAll_cons hA
  obtain ⟨v1, vs1, d1, ds1, p1, q1, rfl, rfl, rfl, h1, r1⟩ := trodAll_cons r0
  obtain ⟨v2, vs2, d2, ds2, p2, q2, rfl, rfl, rfl, h2, r2⟩ := trodAll_cons r1
  obtain ⟨rfl, rfl, rfl⟩ := trodAll_nil r2
  obtain rfl : args = #[v0, v1, v2] := by cases args; simp_all
  obtain ⟨rfl, rfl⟩ := trodVars_none hV
  obtain ⟨a, rfl, la, ha⟩ := open_arr16 (hval 0 22 v0 rfl rfl) h0
  obtain ⟨b, rfl, lb, hb⟩ := open_arr16 (hval 1 22 v1 rfl rfl) h1
  obtain ⟨i, rfl, bi⟩ := open_u8 (hval 2 5 v2 rfl rfl) h2
  clear hA0 hval0
  refine (walk a b i W la lb ha hb bi).mono fun e W' ⟨he, hb⟩ => ⟨_, he, ?_⟩
  exact law_post laidOut (of_decide_eq_true (by kernel_rfl)) rfl rfl Try.underlying4 (fun ds hl => by
    match ds, hl with
    | [_, _, _], _ => rfl) hW' hb

theorem proved : Rows.UuidOrderSaid :=
  OpenClaim.holds_of_wide 3 Try.f3 rfl rfl rfl rfl rfl rfl rfl ⟨rfl, rfl, rfl, rfl, rfl⟩ rfl rfl rfl rfl rfl (by kernel_rfl) Try.func3 (by kernel_rfl)
    (of_decide_eq_true (by kernel_rfl)) (by unfold Func.isWrapper; first | (rw [if_pos (by decide +kernel)]; kernel_rfl) | (rw [if_neg (by decide +kernel)]; exact ⟨rfl, rfl⟩))
    (fun os started H enc _ => lifted os started H enc)
end Go.Proofs.Ytbigpcpifbjkfaa.uuidOrder
