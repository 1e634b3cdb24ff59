/- DayNext: the next day is the next date. Conditions: none. -/
import Derived.Test.YtdaadoiedaplaaaDoorRows
import Derived.Test.YtdaadoiedaplaaaDoorNextPlain
import Derived.Test.YtdaadoiedaplaaaDoorTie
import Derived.Test.YtdaadoiedaplaaaDoorCards
import Derived.ProofKit
import Derived.OpenShut
import Derived.LaidMore
import Derived.Lay
import Derived.Lib.LaidU8
import Derived.Lib.LaidTab
import Derived.SevenTiedAt
import Derived.Stop.Joined
import Derived.PinnedBridge
namespace Go.Proofs.YtdaadoiedaplaaaDoor.dayNext
open Go.RowKit Go.Lib
theorem date_ex (s n : Int) (w : World) : Calls Tryd.prog 14 #[.agg #[.int .i64 s, .int .i64 n]] w fun e w' => (∃ u v x f : Int, e = .returned (.tuple #[.int .i64 u, .int .i64 v, .int .i64 x, .int .i64 f])) ∧ Below w.heap.size w w' := by
  refine (date4_any s n w).mono ?_
  rintro e w' ⟨rfl, hb⟩
  refine ⟨?_, hb⟩
  unfold DateV
  split
  · exact ⟨_, _, _, _, rfl⟩
  · exact ⟨_, _, _, _, rfl⟩
theorem st_drew {w w2 : World} (h : Below w.heap.size w w2) (v : Value) : Below w.heap.size w (w2.setCell ⟨w.heap.size, 0, none⟩ v).drew := (h.setCell (by simp) _).drew
theorem below_cell {w w' : World} (hb : Below w.heap.size w w') {a : Addr} {v : Value} (h : w.cell? a = some v) : w'.cell? a = some v :=
  (World.cell?_of_block (hb.block a.block (World.block_lt_of_cell? _ _ h))).trans h
theorem below_frozen {w w' : World} (hb : Below w.heap.size w w') {a : Addr} {v : Value} (h : w.cell? a = some v) {f : Bool} (hf : w.frozen? a = f) : w'.frozen? a = f :=
  (World.frozen?_of_block (hb.block a.block (World.block_lt_of_cell? _ _ h))).trans hf
set_option maxHeartbeats 4000000 in
theorem walk_no (s n : Int) (w : World) (hP : Pow w) (hok : okD s n = false) : Calls Tryd.prog 8 #[.agg #[.int .i64 s, .int .i64 n]] w fun e w' => e = .returned (.bool true) ∧ Below w.heap.size w w' := by
  have hd := fun W => date4_any s n W
  have hv : DateV s n = .tuple #[.int .i64 0, .int .i64 0, .int .i64 0, .int .i64 120] := if_neg (by rw [hok]; decide)
  rw [hv] at hd
  clear hv
  go_enter Tryd.func8, Tryd.ntmps8
  go_wp2_with fail
  refine (alive_any _ (hP.below (bAl _ _))).mono ?_
  rintro e w1 ⟨rfl, hb1⟩
  obtain ⟨c0, c1⟩ := day_cells _ _ _ _ hb1
  go_wp2_with fail
  refine (hd _).mono ?_
  rintro e w2 ⟨rfl, hb2⟩
  go_upto_region 3 with fail
  obtain ⟨d0, d1⟩ : w2.cell? ⟨w.heap.size, 0, none⟩ = some (.int .i64 s) ∧ w2.cell? ⟨w.heap.size, 1, none⟩ = some (.int .i64 n) := ⟨below_cell hb2 c0, below_cell hb2 c1⟩
  have f0 : w2.frozen? ⟨w.heap.size, 0, none⟩ = false := below_frozen hb2 c0 (below_frozen hb1 (by rw [World.cell?_alloc_at _ _ _ _ rfl]; rfl : _ = some (Value.int .i64 s)) (World.frozen?_alloc_at _ _ _ _ rfl))
  have HB2 := Lib.hid (bt (bt (bAl w (.cells #[.int .i64 s, .int .i64 n] 23)) (bAl w (.cells #[.int .i64 s, .int .i64 n] 23)).size hb1) (bt (bAl w (.cells #[.int .i64 s, .int .i64 n] 23)) (bAl w (.cells #[.int .i64 s, .int .i64 n] 23)).size hb1).size hb2)
  clear c0 c1 hb1 hb2
  go_region_with (refine (b2i_any _ _).mono ?_; rintro e w' ⟨rfl, rfl⟩)
  all_goals
    go_wp2_with fail
    refine (date_ex _ _ _).mono ?_
    rintro e w3 ⟨⟨u, v, x, f, rfl⟩, hb3⟩
    go_wp2_with fail
    go_ret
    exact ⟨rfl, bt (st_drew HB2.out _) (st_drew HB2.out _).size hb3⟩
set_option maxHeartbeats 4000000 in
set_option maxRecDepth 100000 in
theorem walk_yes (s n : Int) (w : World) (hP : Pow w) (hok : okD s n = true) : Calls Tryd.prog 8 #[.agg #[.int .i64 s, .int .i64 n]] w fun e w' => e = .returned (.bool true) ∧ Below w.heap.size w w' := by
  have hd := fun W => date4_any s n W
  have hv : DateV s n = .tuple #[.int .i64 (dateD (dayOf s)).1, .int .i64 (dateD (dayOf s)).2.1, .int .i64 (dateD (dayOf s)).2.2, .int .i64 0] := if_pos hok
  rw [hv] at hd
  clear hv
  have hr := hok
  unfold okD at hr
  rw [decide_eq_true_iff] at hr
  obtain ⟨s0, s1, _, _⟩ := hr
  have hnx := next_day (dayOf s)
  rw [show dayOf s + 1 = dayOf (s + 86400) by unfold dayOf; omega] at hnx
  obtain ⟨⟨y, m, d⟩, hD⟩ : ∃ p, dateD (dayOf s) = p := ⟨_, rfl⟩
  obtain ⟨⟨u, v, x⟩, hD2⟩ : ∃ p, dateD (dayOf (s + 86400)) = p := ⟨_, rfl⟩
  have hy : 0 ≤ y ∧ y ≤ 9999 := by
    obtain ⟨y9, m9, d9, h1, h2, _⟩ := date_range (dayOf s) (by unfold dayOf; omega) (by unfold dayOf; omega)
    rw [hD] at h1
    simp only [Prod.mk.injEq] at h1
    omega
  obtain ⟨y0, y1⟩ := hy
  have hd2 := fun W => date4_any (s + 86400) n W
  unfold DateV at hd2
  rw [hD2] at hnx hd2
  rw [hD] at hnx hd
  obtain ⟨hnx, m0, m1, d0', d1'⟩ := hnx
  simp only at hnx m0 m1 d0' d1' hd hd2
  have HN := Lib.hid hnx
  have HM := Lib.hid (And.intro m0 (And.intro m1 (And.intro d0' d1')))
  clear hnx hD hD2 hok
  go_enter Tryd.func8, Tryd.ntmps8
  go_wp2_with fail
  refine (alive_any _ (hP.below (bAl _ _))).mono ?_
  rintro e w1 ⟨rfl, hb1⟩
  obtain ⟨c0, c1⟩ := day_cells _ _ _ _ hb1
  go_wp2_with fail
  refine (hd _).mono ?_
  rintro e w2 ⟨rfl, hb2⟩
  go_upto_region 3 with fail
  obtain ⟨d0, d1⟩ : w2.cell? ⟨w.heap.size, 0, none⟩ = some (.int .i64 s) ∧ w2.cell? ⟨w.heap.size, 1, none⟩ = some (.int .i64 n) := ⟨below_cell hb2 c0, below_cell hb2 c1⟩
  have f0 : w2.frozen? ⟨w.heap.size, 0, none⟩ = false := below_frozen hb2 c0 (below_frozen hb1 (by rw [World.cell?_alloc_at _ _ _ _ rfl]; rfl : _ = some (Value.int .i64 s)) (World.frozen?_alloc_at _ _ _ _ rfl))
  have HB2 := Lib.hid (bt (bt (bAl w (.cells #[.int .i64 s, .int .i64 n] 23)) (bAl w (.cells #[.int .i64 s, .int .i64 n] 23)).size hb1) (bt (bAl w (.cells #[.int .i64 s, .int .i64 n] 23)) (bAl w (.cells #[.int .i64 s, .int .i64 n] 23)).size hb1).size hb2)
  clear c0 c1 hb1 hb2
  go_region_with (refine (b2i_any _ _).mono ?_; rintro e w' ⟨rfl, rfl⟩)
  all_goals
    go_wp2_with fail
    by_cases hk : okD (s + 86400) n = true
    · have h2 := hd2
      simp only [if_pos hk] at h2
      clear hd2 hk
      refine (h2 _).mono ?_
      rintro e w3 ⟨rfl, hb3⟩
      have HB3 := Lib.hid (bt (st_drew HB2.out _) (st_drew HB2.out _).size hb3)
      clear hb3
      obtain ⟨m0, m1, d0', d1'⟩ := HM.out
      rcases HN.out with ⟨rfl, rfl, rfl⟩ | ⟨rfl, rfl, rfl, h28⟩ | ⟨rfl, rfl, rfl, em, ed⟩
      · go_wp2_with fail
        go_ret
        exact ⟨ret_bool (by simp), HB3.out⟩
      · have e1 : ((m + 1 : Int) == m) = false := by rw [beq_eq_false_iff_ne]; omega
        go_wp2_with fail
        go_ret
        exact ⟨ret_bool (by simp), HB3.out⟩
      · have e1 : ((y + 1 : Int) == y) = false := by rw [beq_eq_false_iff_ne]; omega
        have e2 : (m == 12) = true := by rw [em]; rfl
        have e3 : (d == 31) = true := by rw [ed]; rfl
        clear em ed
        go_wp2_with fail
        go_ret
        exact ⟨ret_bool (by simp), HB3.out⟩
    · have h2 := hd2
      simp only [if_neg hk] at h2
      clear hd2 hk
      refine (h2 _).mono ?_
      rintro e w3 ⟨rfl, hb3⟩
      go_wp2_with fail
      go_ret
      exact ⟨rfl, bt (st_drew HB2.out _) (st_drew HB2.out _).size hb3⟩
theorem walk (s n : Int) (w : World) (hP : Pow w) : Calls Tryd.prog 8 #[.agg #[.int .i64 s, .int .i64 n]] w fun e w' => e = .returned (.bool true) ∧ Below w.heap.size w w' := by
  cases h : okD s n
  · exact walk_no s n w hP h
  · exact walk_yes s n w hP h
open Go.ChangeShapes Go.WideShapes Go.ChangeAt
theorem own : ownKnob Tryd.prog.godebug = none := by kernel_rfl
theorem laidOut : laidOutB Tryd.prog = true := by kernel_rfl
def laidL : List (String × DataW Unit) := [("math/bits.deBruijn32tab", Rows.laid_math_bits_deBruijn32tab), ("math/bits.deBruijn64tab", Rows.laid_math_bits_deBruijn64tab), ("internal/strconv.uint64pow10", Rows.laid_internal_strconv_uint64pow10), ("unicode/utf8.acceptRanges", Rows.laid_unicode_utf8_acceptRanges), ("unicode/utf8.first", Rows.laid_unicode_utf8_first)]
theorem tabIs_of_reads {P : Program} {W : World} {name : String} {k : IntKind} {zs : List Int} {g : Nat} {t e : TypeId} {n : Nat}
    (hg : P.globalNamed name = some g) (hty : (P.globals[g]?).map (·.type) = some t) (ht : P.underlying t = some (.array n e)) (he : P.underlying e = some (.int k)) (hce : P.cellsOf e = 1) (hct : P.cellsOf t = n)
    (h : Lib.VarReads P W name (Lib.tabData k zs)) : Lib.TabIs P W name k zs := by
  obtain ⟨g', t', cs, fuel, p, hg', ht', hvar, hd⟩ := h
  obtain rfl := Option.some.inj (hg.symm.trans hg')
  obtain rfl := Option.some.inj (hty.symm.trans ht')
  unfold Lib.TabIs
  rw [hvar, ← Lib.cells_of_tab ht he hce hct hd]
theorem pow_eq : (Rows.laid_internal_strconv_uint64pow10 : DataW Unit) = Lib.tabData .u64 Lib.pow10Tab := by kernel_rfl
theorem tabs_of {W : World} (h : laidMetH Tryd.prog laidL W) : Pow W := by
  rw [MakeChecks.laidMetH_plain _ _ _ (by kernel_rfl)] at h
  have h1 : Lib.VarReads Tryd.prog W "internal/strconv.uint64pow10" Rows.laid_internal_strconv_uint64pow10 := Lib.laidMet.reads h (.tail _ (.tail _ (.head _)))
  rw [pow_eq] at h1
  exact tabIs_of_reads (g := (Tryd.prog.globalNamed "internal/strconv.uint64pow10").getD 0) (t := 126) (e := 107) (n := 20) (by kernel_rfl) (by kernel_rfl) (by kernel_rfl) (by kernel_rfl) (by kernel_rfl) (by kernel_rfl) h1
set_option maxRecDepth 100000 in
theorem lifted (os : Os) (started : os.Started) (H : Type) (enc : TypeId × Value → H) :
    ReturnsInHanded {} Tryd.checked os 8 .any (fun w args => (Rows.dayNextSpec.pre enc Tryd.prog Tryd.f8 Rows.dayNextRow.domain false w args ∧ laidMetH Tryd.prog laidL w) ∧ sizedMet enc Tryd.prog Tryd.f8 (OpenSpec.ofChange Rows.dayNextSpec) false w args)
      (Rows.dayNextSpec.post enc Tryd.prog Tryd.f8 false true false false) := by
  refine returnsInHanded_of_change_and (C := Tryd.checked) (X := fun w _ => laidMetH Tryd.prog laidL w) (fun _ _ _ hh h => h.of_heap hh) own started (by kernel_rfl) Tryd.func8
    (ChangeSpec.witness_shaped (enc := enc) (C := Tryd.checked) (os := os) (X := fun w _ => laidMetH Tryd.prog laidL w) false (World.laidAll Tryd.prog os laidL) #[.agg #[.int .i64 0, .int .i64 0]] 8 (World.laidAll_os _ _ _)
      (World.shaped_of_ZipB (by kernel_rfl) (by kernel_rfl)) (by kernel_rfl) (by kernel_rfl) (by kernel_rfl)
      (by rw [MakeChecks.laidMetH_plain _ _ _ (by kernel_rfl)]; exact laidMet_laidAll _ (by kernel_rfl) (by kernel_rfl))) ?_
  intro W base args ds gs before hval0 hW _ hsz0 hL _
  have hT : Pow W := tabs_of hL
  have hsz : (DataW.weightsEach Tryd.prog (Tryd.f8.params.toList ++ Rows.dayNextSpec.plain.varTypes Tryd.prog) (ds ++ gs)).all (· ≤ reachBytes) = true := hsz0
  have hval : ∀ (j : Nat) t v, Tryd.f8.params[j]? = some t → args[j]? = some v → Value.okWide Tryd.prog W .any base t v := hval0
  have hW' := hW
  obtain ⟨p, q, hA0, hV, rfl, hfz, hnd⟩ := hW
  have hA : DataW.TrodAll enc Tryd.prog W 0 (fun _ => true) true Tryd.f8.params.toList args.toList ds p := hA0
  rw [Tryd.params8] at hA hval hsz
  have hlt0 : ∀ x ∈ p, x.block < W.heap.size := fun x hx => hW'.lt x (by simp [hx])
  obtain ⟨v0, vs0, d0, ds0, p0, q0, hargs, rfl, rfl, h0, r0⟩ := trodAll_cons hA
  obtain ⟨rfl, rfl, rfl⟩ := trodAll_nil r0
  obtain rfl : args = #[v0] := by cases args; simp_all
  obtain ⟨rfl, rfl⟩ := trodVars_none hV
  obtain ⟨sa, na, rfl, wsa, wna⟩ := open_day (hval 0 23 v0 rfl rfl) h0
  clear hA0 hval0
  refine (walk _ _ _ hT).mono fun e W' ⟨he, hb⟩ => ⟨_, he, ?_⟩
  exact law_post laidOut (of_decide_eq_true (by kernel_rfl)) rfl rfl Tryd.underlying4 (fun ds hl => by
    match ds, hl with
    | [_], _ => rfl) hW' hb

theorem proved : Rows.DayNextSaid :=
  OpenClaim.holds_of_wide 8 Tryd.f8 rfl rfl rfl rfl rfl rfl rfl ⟨rfl, rfl, rfl, rfl, rfl⟩ rfl rfl rfl rfl rfl (by kernel_rfl) Tryd.func8 (by kernel_rfl)
    (of_decide_eq_true (by kernel_rfl)) (by unfold Func.isWrapper; first | (rw [if_pos (by decide +kernel)]; kernel_rfl) | (rw [if_neg (by decide +kernel)]; exact ⟨rfl, rfl⟩))
    (fun os started H enc _ => lifted os started H enc)
theorem card : Rows.DayNextCardSaid :=
  Claim7.holds_tied_plain_at .later [] [.data, .data, .data, .data, .pinned] true (true, "9dad1e08f6c8d2027cebc61acc31d6ef1a689ef6c3038fbfe70cdb5ff32d60b7") false proved (fun _ h => by cases h) (by kernel_rfl) (fun _ h => by cases h) dayNext_row_tie rfl ⟨rfl, rfl⟩ (by kernel_rfl) rfl
    (fun f fn hf hfn => by
      obtain rfl : f = 8 := Option.some.inj ((show Tryd.prog.funcNamed "provost/provostlaw12.DayNext" = some 8 by kernel_rfl).symm.trans hf) |>.symm
      obtain rfl : fn = Tryd.f8 := (Option.some.inj (Tryd.func8.symm.trans hfn)).symm
      exact ⟨by kernel_rfl, fun j t ht => by
        rw [Tryd.params8] at ht
        have hm := Array.mem_of_getElem? ht
        have hall : (Tryd.f8.params.toList.all fun u => !Tryd.prog.wantsStandIn u) = true := by kernel_rfl
        rw [Tryd.params8] at hall
        exact (show Tryd.prog.wantsStandIn t = false by simpa using List.all_eq_true.1 hall t (by simpa using hm))⟩)
    (by kernel_rfl)
end Go.Proofs.YtdaadoiedaplaaaDoor.dayNext
