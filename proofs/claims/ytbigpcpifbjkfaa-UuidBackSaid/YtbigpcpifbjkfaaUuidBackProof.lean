/- UuidBack: a UUID's text tells it, and is its own; what a text tells has a text that differs by great letters alone: the call returns true. Conditions: none. -/
import Derived.Test.YtbigpcpifbjkfaaRows
import Derived.Test.YtbigpcpifbjkfaaUuidOpen
namespace Go.Proofs.Ytbigpcpifbjkfaa.uuidBack
open Go.ChangeShapes Go.WideShapes Go.ChangeAt Go.RowKit
open Go.ChangeMaps (open_string shut_string)
theorem walk (b : List Int) (s : ByteArray) (w : World) (hb : b.length = 16) (hb9 : ∀ x ∈ b, 0 ≤ x ∧ x < 256) (hs : s.size ≤ maxLen) :
    Calls Try.prog 5 #[.agg (av b), .string s] w fun e w' => e = .returned (.bool true) ∧ Below w.heap.size w w' := by
  have hl0 : zero16.length = 16 := rfl
  have hpt := parsed_txt b hb hb9
  have hct : canon (strOfNums (txt b)) = strOfNums (txt b) := by rw [canon, hpt]; rfl
  have hts := txt_size b
  obtain ⟨t, ht⟩ : ∃ t, strOfNums (txt b) = t := ⟨_, rfl⟩
  rw [ht] at hpt hct hts
  have hz : (w.alloc (.cells (av b) 22)).heap.size = w.heap.size + 1 := by simp
  have hB0 : Below w.heap.size w (w.alloc (.cells (av b) 22)) := (Below.refl _ _).alloc (Nat.le_refl _) _
  have c1 : (w.alloc (.cells (av b) 22)).heap[w.heap.size]? = some (.cells (av b) 22) := heap_alloc_new _ _
  go_enter Try.func5, Try.ntmps5
  go_wp2_with fail
  refine (alive_any _).mono ?_
  rintro e w1 ⟨rfl, hb1⟩
  have hs1 := hb1.size
  replace c1 : w1.heap[w.heap.size]? = some (.cells (av b) 22) := by rw [hb1.block _ (by omega)]; exact c1
  have hB1 : Below w.heap.size w w1 := hB0.trans (hb1.mono (by omega))
  have hlt1 : w.heap.size < w1.heap.size := by omega
  clear hB0 hb1
  go_wp2_with (first | (refine wpList_load16g rfl _ rfl w.heap.size b 22 rfl c1 hb ?_))
  refine (text_any b _ hb hb9).mono ?_
  rintro e w2 ⟨rfl, hb2⟩
  rw [ht]
  replace c1 : w2.heap[w.heap.size]? = some (.cells (av b) 22) := by rw [hb2.block _ (by omega)]; exact c1
  have hB2 : Below w.heap.size w w2 := hB1.trans (hb2.mono (by omega))
  have hs2 := hb2.size
  clear hB1 hb2
  go_wp2_with fail
  refine (parse_any t _).mono ?_
  rintro e w3 ⟨rfl, hb3⟩
  rw [hpt]
  simp only
  replace c1 : w3.heap[w.heap.size]? = some (.cells (av b) 22) := by rw [hb3.block _ (by omega)]; exact c1
  have hB3 : Below w.heap.size w w3 := hB2.trans (hb3.mono (by omega))
  have hs3 := hb3.size
  clear hB2 hb3
  have z3 : (w3.alloc (.cells (av zero16) 22)).heap[w3.heap.size]? = some (.cells (av zero16) 22) := heap_alloc_new _ _
  obtain ⟨hB4, hb4, c4, hw4⟩ := put16 b hB3
  replace c1 : ((w3.alloc (.cells (av zero16) 22)).setRow w3.heap.size (av b)).heap[w.heap.size]? = some (.cells (av b) 22) := by rw [hb4.block _ (by omega)]; exact c1
  go_wp2_with (first | (refine wpList_store16 rfl _ _ rfl w3.heap.size zero16 b 22 rfl rfl z3 hl0 hb ?_))
  obtain ⟨W4, hW4⟩ : ∃ W4, (w3.alloc (.cells (av zero16) 22)).setRow w3.heap.size (av b) = W4 := ⟨_, rfl⟩
  have hcg := canon_any t W4
  rw [← hW4] at hcg
  refine hcg.mono ?_
  rw [hW4] at hB4 hb4 c4 hw4 c1 ⊢
  clear hW4 hcg hB3 hb4 z3
  rintro e w5 ⟨rfl, hb5⟩
  rw [hpt, hct]
  simp only
  replace c1 : w5.heap[w.heap.size]? = some (.cells (av b) 22) := by rw [hb5.block _ (by omega)]; exact c1
  replace c4 : w5.heap[w3.heap.size]? = some (.cells (av b) 22) := by rw [hb5.block _ (by omega)]; exact c4
  have hB5 : Below w.heap.size w w5 := hB4.trans (hb5.mono (by omega))
  clear hB4 hb5
  go_wp2_with (first | (refine wpList_load16g rfl _ rfl w3.heap.size b 22 rfl c4 hb ?_) | (refine wpList_load16g rfl _ rfl w.heap.size b 22 rfl c1 hb ?_))
  refine (canon_any s _).mono ?_
  rintro e w6 ⟨rfl, hb6⟩
  have hB6 : Below w.heap.size w w6 := hB5.trans (hb6.mono (by have := hB5.size; omega))
  clear hB5 hb6 c1 c4
  by_cases hp : s.size = 36 ∧ okAll s = true
  · have hpp : parsed s = (dec s, 0) := by rw [parsed, if_pos hp]
    have hcc : canon s = strOfNums (txt (dec s)) := by rw [canon, hpp]; rfl
    rw [hpp, hcc]
    simp only
    have hlc := dec_len s
    have hrng : ∀ x ∈ dec s, 0 ≤ x ∧ x < 256 := by
      obtain ⟨xs, n, e1, _, e3, _⟩ := parsed_facts s
      rw [hpp] at e1
      cases e1
      exact e3
    have hCs := txt_size (dec s)
    have hCc := fun i hi => ch_txt (dec s) hlc hrng i hi
    obtain ⟨C, hC⟩ : ∃ C, strOfNums (txt (dec s)) = C := ⟨_, rfl⟩
    rw [hC] at hCs ⊢
    simp only [hC] at hCc
    have hss : (s.size : Int) = 36 := by omega
    have hCC : (C.size : Int) = 36 := by omega
    go_wp2
    go_loopw [13] (fun i wr => ∃ k : Nat, k ≤ 36 ∧ i = .int .i64 k ∧ Below w.heap.size w wr) (fun i _ => 36 - (intOf i).toNat)
    case atStart => exact ⟨0, by omega, rfl, hB6⟩
    case round =>
      obtain ⟨k, hk, rfl, hbr⟩ := hrel
      by_cases hlt : k < 36
      · have hsg := same_or_great s hp.2 k hlt
        rw [← hCc k hlt] at hsg
        have hi1 : ∀ W : World, (Instr.index 9 (.string s) (.int .i64 (k : Int))).run Try.prog W = .ok (.int .u8 (ch s k)) W := by
          intro W
          rw [run_index_string W 9 s .i64 (k : Int) Try.underlying9, dif_pos (by constructor <;> omega)]
          simp [← ch_at s k (by omega)]
        have hi2 : ∀ W : World, (Instr.index 9 (.string C) (.int .i64 (k : Int))).run Try.prog W = .ok (.int .u8 (ch C k)) W := by
          intro W
          rw [run_index_string W 9 C .i64 (k : Int) Try.underlying9, dif_pos (by constructor <;> omega)]
          simp [← ch_at C k (by omega)]
        have hr := ch_rng s k
        obtain ⟨x, hx⟩ : ∃ x, ch s k = x := ⟨_, rfl⟩
        obtain ⟨y, hy⟩ : ∃ y, ch C k = y := ⟨_, rfl⟩
        rw [hx] at hi1 hr hsg
        rw [hy] at hi2 hsg
        have hkk : (k : Int) < 36 := by omega
        have hks : (k : Int) < s.size := by omega
        have hks' : k < s.size := by omega
        clear hx hy hCc hpp hcc hpt hct hp hrng hlc hCs hss hCC hB6
        by_cases h1 : x < 65
        · obtain rfl : y = x := by omega
          have g1 : decide (65 ≤ y) = false := decide_eq_false (by omega)
          have g1' : ¬ 65 ≤ y := by omega
          go_wp2
          go_region
          go_wp2
          go_region
          go_wp2
          exact ⟨⟨k + 1, hlt, by go_num, hbr.drew.drew⟩, by simp [intOf]; omega⟩
        · by_cases h2 : 70 < x
          · obtain rfl : y = x := by omega
            have g1 : decide (65 ≤ y) = true := decide_eq_true (by omega)
            have g1' : 65 ≤ y := by omega
            have g2 : decide (y ≤ 70) = false := decide_eq_false (by omega)
            have g2' : ¬ y ≤ 70 := by omega
            go_wp2
            go_region
            go_wp2
            go_region
            go_wp2
            exact ⟨⟨k + 1, hlt, by go_num, hbr.drew.drew⟩, by simp [intOf]; omega⟩
          · have hw : IntKind.u8.wrap (x + 32) = x + 32 := by rw [IntKind.wrap_u8]; omega
            have g1 : decide (65 ≤ x) = true := decide_eq_true (by omega)
            have g1' : 65 ≤ x := by omega
            have g2 : decide (x ≤ 70) = true := decide_eq_true (by omega)
            have g2' : x ≤ 70 := by omega
            have g3 : (x == x + 32) = false := by rw [beq_eq_false_iff_ne]; omega
            have g4 : (x + 32 == x) = false := by rw [beq_eq_false_iff_ne]; omega
            have g5 : (x + 32 != x) = true := by rw [bne, g4]; rfl
            by_cases hyx : y = x
            · clear hsg
              subst hyx
              go_wp2
              go_region
              go_wp2
              go_region
              go_wp2
              exact ⟨⟨k + 1, hlt, by go_num, hbr.drew.drew⟩, by simp [intOf]; omega⟩
            · replace hyx : y = x + 32 := by omega
              clear hsg
              subst hyx
              go_wp2
              go_region
              go_wp2
              go_region
              go_wp2
              exact ⟨⟨k + 1, hlt, by go_num, hbr.drew.drew⟩, by simp [intOf]; omega⟩
      · obtain rfl : k = 36 := by omega
        go_wp2
        go_ret
        exact ⟨ret_bool (by simp), hbr⟩
  · have hpp : parsed s = (zero16, 130) := by rw [parsed, if_neg hp]
    have hcc : canon s = ⟨#[]⟩ := by rw [canon, hpp]; rfl
    rw [hpp, hcc]
    simp only
    go_wp2
    go_ret
    exact ⟨ret_bool (by simp), hB6⟩
theorem own : ownKnob Try.prog.godebug = none := by kernel_rfl
theorem laidOut : laidOutB Try.prog = true := by kernel_rfl
set_option maxRecDepth 100000 in
theorem lifted (os : Os) (started : os.Started) (H : Type) (enc : TypeId × Value → H) :
    ReturnsInHanded {} Try.checked os 5 .any (Rows.uuidBackSpec.pre6 enc Try.prog Try.f5 Rows.uuidBackRow.domain false) (Rows.uuidBackSpec.post enc Try.prog Try.f5 false true false false) := by
  refine returnsInHanded_of_change_shaped (C := Try.checked) own started (by kernel_rfl) Try.func5
    (ChangeSpec.witness6 (enc := enc) (C := Try.checked) false ⟨#[], #[.agg #[.int .u8 0, .int .u8 0, .int .u8 0, .int .u8 0, .int .u8 0, .int .u8 0, .int .u8 0, .int .u8 0, .int .u8 0, .int .u8 0, .int .u8 0, .int .u8 0, .int .u8 0, .int .u8 0, .int .u8 0, .int .u8 0], .string ⟨#[]⟩], []⟩ 8 (by kernel_rfl) (by kernel_rfl) (by kernel_rfl) (by kernel_rfl)) ?_
  intro W base args ds gs before hval0 hW _ hsz0 hsh0 _
  have hsh : W.ShapedOpen Try.prog := hsh0
  have hsz : (DataW.weightsEach Try.prog (Try.f5.params.toList ++ Rows.uuidBackSpec.plain.varTypes Try.prog) (ds ++ gs)).all (· ≤ reachBytes) = true := hsz0
  clear hsz0 hsh0
  have hval : ∀ (j : Nat) t v, Try.f5.params[j]? = some t → args[j]? = some v → Value.okWide Try.prog W .any base t v := hval0
  have hW' := hW
  obtain ⟨p, q, hA0, hV, rfl, hfz, hnd⟩ := hW
  have hA : DataW.TrodAll enc Try.prog W 0 (fun _ => true) true Try.f5.params.toList args.toList ds p := hA0
  rw [Try.params5] at hA hval hsz
  have hlt0 : ∀ x ∈ p, x.block < W.heap.size := fun x hx => hW'.lt x (by simp [hx])
  obtain ⟨v0, vs0, d0, ds0, p0, q0, hargs, rfl, rfl, h0, r0⟩ := trodAll_cons hA
  obtain ⟨v1, vs1, d1, ds1, p1, q1, rfl, rfl, rfl, h1, r1⟩ := trodAll_cons r0
  obtain ⟨rfl, rfl, rfl⟩ := trodAll_nil r1
  obtain rfl : args = #[v0, v1] := by cases args; simp_all
  obtain ⟨rfl, rfl⟩ := trodVars_none hV
  obtain ⟨s, rfl, rfl, rfl, ws⟩ := open_string Try.underlying9 (hval 1 9 v1 rfl rfl) h1
  have rs : s.size ≤ 140737488351232 := by
    have := sized_string hsz (j := 1) rfl rfl
    simpa [reachBytes] using this
  obtain ⟨b, rfl, lb, hb⟩ := open_arr16 (hval 0 22 v0 rfl rfl) h0
  clear hA0 hval0
  refine (walk b s W lb hb ws).mono fun e W' ⟨he, hb⟩ => ⟨_, he, ?_⟩
  exact law_post laidOut (of_decide_eq_true (by kernel_rfl)) rfl rfl Try.underlying4 (fun ds hl => by
    match ds, hl with
    | [_, _], _ => rfl) hW' hb

theorem proved : Rows.UuidBackSaid :=
  OpenClaim.holds_of_wide 5 Try.f5 rfl rfl rfl rfl rfl rfl rfl ⟨rfl, rfl, rfl, rfl, rfl⟩ rfl rfl rfl rfl rfl (by kernel_rfl) Try.func5 (by kernel_rfl)
    (of_decide_eq_true (by kernel_rfl)) (by unfold Func.isWrapper; first | (rw [if_pos (by decide +kernel)]; kernel_rfl) | (rw [if_neg (by decide +kernel)]; exact ⟨rfl, rfl⟩))
    (fun os started H enc _ => lifted os started H enc)
end Go.Proofs.Ytbigpcpifbjkfaa.uuidBack
