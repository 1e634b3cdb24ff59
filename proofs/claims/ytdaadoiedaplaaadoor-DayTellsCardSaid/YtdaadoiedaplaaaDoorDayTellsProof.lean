/- DayTells: dates, texts and the order are as is said. Conditions: none. -/
import Derived.Test.YtdaadoiedaplaaaDoorRows
import Derived.Test.YtdaadoiedaplaaaDoorOrdPlain
import Derived.Test.YtdaadoiedaplaaaDoorRefOf
import Derived.Test.YtdaadoiedaplaaaDoorTie
import Derived.Test.YtdaadoiedaplaaaDoorCards
import Derived.ProofKit
import Derived.OpenShut
import Derived.LaidMore
import Derived.Lay
import Derived.Lib.LaidU8
import Derived.Lib.LaidTab
import Derived.SevenTiedAt
import Derived.Stop.Joined
import Derived.PinnedBridge
import Derived.Deep.RegionHeld3
namespace Go.Proofs.YtdaadoiedaplaaaDoor.dayTells
open Go.RowKit Go.Lib
theorem bcell {w w' : World} (hb : Below w.heap.size w w') {a : Addr} {v : Value} (h : w.cell? a = some v) : w'.cell? a = some v :=
  (World.cell?_of_block (hb.block a.block (World.block_lt_of_cell? _ _ h))).trans h
structure Two (W : World) (g : Nat) (a n b m : Int) : Prop where
  c0 : W.cell? ⟨g, 0, none⟩ = some (.int .i64 a)
  c1 : W.cell? ⟨g, 1, none⟩ = some (.int .i64 n)
  c2 : W.cell? ⟨g + 1, 0, none⟩ = some (.int .i64 b)
  c3 : W.cell? ⟨g + 1, 1, none⟩ = some (.int .i64 m)
theorem Two.keep {W W' : World} {g : Nat} {a n b m : Int} (h : Two W g a n b m) (hb : Below W.heap.size W W') : Two W' g a n b m :=
  ⟨bcell hb h.c0, bcell hb h.c1, bcell hb h.c2, bcell hb h.c3⟩
theorem Two.start (w : World) (a n b m : Int) : Two ((w.alloc (.cells #[.int .i64 a, .int .i64 n] 23)).alloc (.cells #[.int .i64 b, .int .i64 m] 23)) w.heap.size a n b m := by
  have k0 : (w.alloc (.cells #[.int .i64 a, .int .i64 n] 23)).cell? ⟨w.heap.size, 0, none⟩ = some (.int .i64 a) := by rw [World.cell?_alloc_at _ _ _ _ rfl]; rfl
  have k1 : (w.alloc (.cells #[.int .i64 a, .int .i64 n] 23)).cell? ⟨w.heap.size, 1, none⟩ = some (.int .i64 n) := by rw [World.cell?_alloc_at _ _ _ _ rfl]; rfl
  refine ⟨bcell (bAl _ _) k0, bcell (bAl _ _) k1, ?_, ?_⟩
  · rw [World.cell?_alloc_at _ _ _ _ (by simp)]; rfl
  · rw [World.cell?_alloc_at _ _ _ _ (by simp)]; rfl
set_option maxHeartbeats 4000000 in
set_option maxRecDepth 100000 in
theorem walk0 (a n b m : Int) (T : ByteArray) (E Y M D G K : Int) (w : World) (hP : Pow w)
    (x1 : ∀ W, Pow W → Calls Tryd.prog 12 #[.agg #[.int .i64 a, .int .i64 n]] W fun e w' => e = .returned (.tuple #[.string T, .int .i64 E]) ∧ Below W.heap.size W w')
    (x2 : ∀ W, Calls Tryd.prog 13 #[.agg #[.int .i64 a, .int .i64 n]] W fun e w' => e = .returned (.tuple #[.string T, .int .i64 E]) ∧ Below W.heap.size W w')
    (x3 : ∀ W, Calls Tryd.prog 14 #[.agg #[.int .i64 a, .int .i64 n]] W fun e w' => e = .returned (.tuple #[.int .i64 Y, .int .i64 M, .int .i64 D, .int .i64 G]) ∧ Below W.heap.size W w')
    (x4 : ∀ W, Calls Tryd.prog 15 #[.agg #[.int .i64 a, .int .i64 n]] W fun e w' => e = .returned (.tuple #[.int .i64 Y, .int .i64 M, .int .i64 D, .int .i64 G]) ∧ Below W.heap.size W w')
    (x5 : ∀ W, Calls Tryd.prog 16 #[.agg #[.int .i64 a, .int .i64 n]] W fun e w' => e = .returned (.int .i64 E) ∧ Below W.heap.size W w')
    (x6 : ∀ W, Calls Tryd.prog 17 #[.agg #[.int .i64 a, .int .i64 n]] W fun e w' => e = .returned (.int .i64 E) ∧ Below W.heap.size W w')
    (x7 : ∀ W, Calls Tryd.prog 18 #[.agg #[.int .i64 a, .int .i64 n], .agg #[.int .i64 b, .int .i64 m]] W fun e w' => e = .returned (.int .i64 K) ∧ Below W.heap.size W w')
    (x8 : ∀ W, Calls Tryd.prog 19 #[.agg #[.int .i64 a, .int .i64 n], .agg #[.int .i64 b, .int .i64 m]] W fun e w' => e = .returned (.int .i64 K) ∧ Below W.heap.size W w') :
    Calls Tryd.prog 4 #[.agg #[.int .i64 a, .int .i64 n], .agg #[.int .i64 b, .int .i64 m]] w fun e w' => e = .returned (.bool true) ∧ Below w.heap.size w w' := by
  have X1 := Lib.hid x1
  have X2 := Lib.hid x2
  have X3 := Lib.hid x3
  have X4 := Lib.hid x4
  have X5 := Lib.hid x5
  have X6 := Lib.hid x6
  have X7 := Lib.hid x7
  have X8 := Lib.hid x8
  clear x1 x2 x3 x4 x5 x6 x7 x8
  have hT := Two.start w a n b m
  have hB : Below w.heap.size w ((w.alloc (.cells #[.int .i64 a, .int .i64 n] 23)).alloc (.cells #[.int .i64 b, .int .i64 m] 23)) := bt (bAl w _) (bAl w _).size (bAl _ _)
  have hP0 := (hP.below (bAl w (.cells #[.int .i64 a, .int .i64 n] 23))).below (bAl _ (.cells #[.int .i64 b, .int .i64 m] 23))
  have HT := Lib.hid hT
  have HB := Lib.hid hB
  have HP := Lib.hid hP0
  clear hT hB hP0 hP
  go_enter Tryd.func4, Tryd.ntmps4
  go_wp2_with fail
  refine (X1.out _ HP.out).mono ?_
  rintro e w1 ⟨rfl, hb⟩
  replace HT := Lib.hid (HT.out.keep hb)
  replace HB := Lib.hid (bt HB.out HB.out.size hb)
  clear hb HP
  have c0 := HT.out.c0
  have c1 := HT.out.c1
  have c2 := HT.out.c2
  have c3 := HT.out.c3
  go_wp2_with fail
  clear c0 c1 c2 c3
  refine (X2.out _).mono ?_
  rintro e w2 ⟨rfl, hb⟩
  replace HT := Lib.hid (HT.out.keep hb)
  replace HB := Lib.hid (bt HB.out HB.out.size hb)
  clear hb
  have c0 := HT.out.c0
  have c1 := HT.out.c1
  have c2 := HT.out.c2
  have c3 := HT.out.c3
  go_wp2_with fail
  clear c0 c1 c2 c3
  refine (X3.out _).mono ?_
  rintro e w3 ⟨rfl, hb⟩
  replace HT := Lib.hid (HT.out.keep hb)
  replace HB := Lib.hid (bt HB.out HB.out.size hb)
  clear hb
  have c0 := HT.out.c0
  have c1 := HT.out.c1
  have c2 := HT.out.c2
  have c3 := HT.out.c3
  go_wp2_with fail
  clear c0 c1 c2 c3
  refine (X4.out _).mono ?_
  rintro e w4 ⟨rfl, hb⟩
  replace HT := Lib.hid (HT.out.keep hb)
  replace HB := Lib.hid (bt HB.out HB.out.size hb)
  clear hb
  have c0 := HT.out.c0
  have c1 := HT.out.c1
  have c2 := HT.out.c2
  have c3 := HT.out.c3
  go_wp2_with fail
  clear c0 c1 c2 c3
  have K : ∀ W, Below w4.heap.size w4 W → W.cell? ⟨w.heap.size, 0, none⟩ = some (.int .i64 a) ∧ W.cell? ⟨w.heap.size, 1, none⟩ = some (.int .i64 n) ∧ W.cell? ⟨w.heap.size + 1, 0, none⟩ = some (.int .i64 b) ∧ W.cell? ⟨w.heap.size + 1, 1, none⟩ = some (.int .i64 m) := fun W h =>
    have q := HT.out.keep h
    ⟨q.c0, q.c1, q.c2, q.c3⟩
  have HK := Lib.hid K
  have x5 := fun W (h : Below w4.heap.size w4 W) => (X5.out W).mono fun e w' (q : _ ∧ _) => (⟨q.1, bt h h.size q.2⟩ : _ ∧ Below w4.heap.size w4 w')
  have x6 := fun W (h : Below w4.heap.size w4 W) => (X6.out W).mono fun e w' (q : _ ∧ _) => (⟨q.1, bt h h.size q.2⟩ : _ ∧ Below w4.heap.size w4 w')
  have x7 := fun W (h : Below w4.heap.size w4 W) => (X7.out W).mono fun e w' (q : _ ∧ _) => (⟨q.1, bt h h.size q.2⟩ : _ ∧ Below w4.heap.size w4 w')
  have x8 := fun W (h : Below w4.heap.size w4 W) => (X8.out W).mono fun e w' (q : _ ∧ _) => (⟨q.1, bt h h.size q.2⟩ : _ ∧ Below w4.heap.size w4 w')
  clear K X5 X6 X7 X8
  go_region_held3 (fun W => W.cell? ⟨w.heap.size, 0, none⟩ = some (.int .i64 a) ∧ W.cell? ⟨w.heap.size, 1, none⟩ = some (.int .i64 n) ∧ W.cell? ⟨w.heap.size + 1, 0, none⟩ = some (.int .i64 b) ∧ W.cell? ⟨w.heap.size + 1, 1, none⟩ = some (.int .i64 m))
    (exact HK.out _ (by repeat (first | assumption | exact Below.refl _ _ | refine Below.drew ?_)))
    (first
      | (go_at_call 16; (with_reducible refine (x5 _ ?_).mono ?_); (repeat (first | assumption | exact Below.refl _ _ | refine Below.drew ?_)); rintro e X5' ⟨rfl, hb5⟩)
      | (go_at_call 17; (with_reducible refine (x6 _ ?_).mono ?_); (repeat (first | assumption | exact Below.refl _ _ | refine Below.drew ?_)); rintro e X6' ⟨rfl, hb6⟩)
      | (go_at_call 18; (with_reducible refine (x7 _ ?_).mono ?_); (repeat (first | assumption | exact Below.refl _ _ | refine Below.drew ?_)); rintro e X7' ⟨rfl, hb7⟩)
      | (go_at_call 19; (with_reducible refine (x8 _ ?_).mono ?_); (repeat (first | assumption | exact Below.refl _ _ | refine Below.drew ?_)); rintro e X8' ⟨rfl, hb8⟩))
  all_goals
    go_wp2
    go_ret
    exact ⟨rfl, HB.out.trans (Below.mono (by assumption) HB.out.size)⟩
theorem walk (a n b m : Int) (w : World) (hP : Pow w) : Calls Tryd.prog 4 #[.agg #[.int .i64 a, .int .i64 n], .agg #[.int .i64 b, .int .i64 m]] w fun e w' => e = .returned (.bool true) ∧ Below w.heap.size w w' := by
  have x1 := fun W hW => text_any a n W hW
  have x2 := fun W => text_ref a n W
  have x3 := fun W => date4_any a n W
  have x4 := fun W => date_ref a n W
  have x5 := fun W => check_any a n W
  have x6 := fun W => check_ref a n W
  have x7 := fun W => compare_any a n b m W
  have x8 := fun W => compare_ref a n b m W
  unfold errD at x5 x6
  by_cases h : okD a n = true
  · have hT : TextV a n = .tuple #[.string ⟨(textL a n).toArray⟩, .int .i64 0] := if_pos h
    have hD : DateV a n = .tuple #[.int .i64 (dateD (dayOf a)).1, .int .i64 (dateD (dayOf a)).2.1, .int .i64 (dateD (dayOf a)).2.2, .int .i64 0] := if_pos h
    rw [hT] at x1 x2
    rw [hD] at x3 x4
    rw [if_pos h] at x5 x6
    exact walk0 a n b m _ _ _ _ _ _ _ w hP x1 x2 x3 x4 x5 x6 x7 x8
  · have hT : TextV a n = .tuple #[.string ⟨#[]⟩, .int .i64 120] := if_neg h
    have hD : DateV a n = .tuple #[.int .i64 0, .int .i64 0, .int .i64 0, .int .i64 120] := if_neg h
    rw [hT] at x1 x2
    rw [hD] at x3 x4
    rw [if_neg h] at x5 x6
    exact walk0 a n b m _ _ _ _ _ _ _ w hP x1 x2 x3 x4 x5 x6 x7 x8
open Go.ChangeShapes Go.WideShapes Go.ChangeAt
open Go.ChangeMaps (open_string shut_string)
theorem own : ownKnob Tryd.prog.godebug = none := by kernel_rfl
theorem laidOut : laidOutB Tryd.prog = true := by kernel_rfl
def laidL : List (String × DataW Unit) := [("math/bits.deBruijn32tab", Rows.laid_math_bits_deBruijn32tab), ("math/bits.deBruijn64tab", Rows.laid_math_bits_deBruijn64tab), ("internal/strconv.uint64pow10", Rows.laid_internal_strconv_uint64pow10), ("unicode/utf8.acceptRanges", Rows.laid_unicode_utf8_acceptRanges), ("unicode/utf8.first", Rows.laid_unicode_utf8_first)]
theorem tabIs_of_reads {P : Program} {W : World} {name : String} {k : IntKind} {zs : List Int} {g : Nat} {t e : TypeId} {n : Nat}
    (hg : P.globalNamed name = some g) (hty : (P.globals[g]?).map (·.type) = some t) (ht : P.underlying t = some (.array n e)) (he : P.underlying e = some (.int k)) (hce : P.cellsOf e = 1) (hct : P.cellsOf t = n)
    (h : Lib.VarReads P W name (Lib.tabData k zs)) : Lib.TabIs P W name k zs := by
  obtain ⟨g', t', cs, fuel, p, hg', ht', hvar, hd⟩ := h
  obtain rfl := Option.some.inj (hg.symm.trans hg')
  obtain rfl := Option.some.inj (hty.symm.trans ht')
  unfold Lib.TabIs
  rw [hvar, ← Lib.cells_of_tab ht he hce hct hd]
theorem pow_eq : (Rows.laid_internal_strconv_uint64pow10 : DataW Unit) = Lib.tabData .u64 Lib.pow10Tab := by kernel_rfl
theorem tabs_of {W : World} (h : laidMetH Tryd.prog laidL W) : Pow W := by
  rw [MakeChecks.laidMetH_plain _ _ _ (by kernel_rfl)] at h
  have h1 : Lib.VarReads Tryd.prog W "internal/strconv.uint64pow10" Rows.laid_internal_strconv_uint64pow10 := Lib.laidMet.reads h (.tail _ (.tail _ (.head _)))
  rw [pow_eq] at h1
  exact tabIs_of_reads (g := (Tryd.prog.globalNamed "internal/strconv.uint64pow10").getD 0) (t := 126) (e := 107) (n := 20) (by kernel_rfl) (by kernel_rfl) (by kernel_rfl) (by kernel_rfl) (by kernel_rfl) (by kernel_rfl) h1
set_option maxRecDepth 100000 in
theorem lifted (os : Os) (started : os.Started) (H : Type) (enc : TypeId × Value → H) :
    ReturnsInHanded {} Tryd.checked os 4 .any (fun w args => (Rows.dayTellsSpec.pre enc Tryd.prog Tryd.f4 Rows.dayTellsRow.domain false w args ∧ laidMetH Tryd.prog laidL w) ∧ sizedMet enc Tryd.prog Tryd.f4 (OpenSpec.ofChange Rows.dayTellsSpec) false w args)
      (Rows.dayTellsSpec.post enc Tryd.prog Tryd.f4 false true false false) := by
  refine returnsInHanded_of_change_and (C := Tryd.checked) (X := fun w _ => laidMetH Tryd.prog laidL w) (fun _ _ _ hh h => h.of_heap hh) own started (by kernel_rfl) Tryd.func4
    (ChangeSpec.witness_shaped (enc := enc) (C := Tryd.checked) (os := os) (X := fun w _ => laidMetH Tryd.prog laidL w) false (World.laidAll Tryd.prog os laidL) #[.agg #[.int .i64 0, .int .i64 0], .agg #[.int .i64 0, .int .i64 0]] 8 (World.laidAll_os _ _ _)
      (World.shaped_of_ZipB (by kernel_rfl) (by kernel_rfl)) (by kernel_rfl) (by kernel_rfl) (by kernel_rfl)
      (by rw [MakeChecks.laidMetH_plain _ _ _ (by kernel_rfl)]; exact laidMet_laidAll _ (by kernel_rfl) (by kernel_rfl))) ?_
  intro W base args ds gs before hval0 hW _ hsz0 hL _
  have hT : Pow W := tabs_of hL
  have hsz : (DataW.weightsEach Tryd.prog (Tryd.f4.params.toList ++ Rows.dayTellsSpec.plain.varTypes Tryd.prog) (ds ++ gs)).all (· ≤ reachBytes) = true := hsz0
  have hval : ∀ (j : Nat) t v, Tryd.f4.params[j]? = some t → args[j]? = some v → Value.okWide Tryd.prog W .any base t v := hval0
  have hW' := hW
  obtain ⟨p, q, hA0, hV, rfl, hfz, hnd⟩ := hW
  have hA : DataW.TrodAll enc Tryd.prog W 0 (fun _ => true) true Tryd.f4.params.toList args.toList ds p := hA0
  rw [Tryd.params4] at hA hval hsz
  have hlt0 : ∀ x ∈ p, x.block < W.heap.size := fun x hx => hW'.lt x (by simp [hx])
  obtain ⟨v0, vs0, d0, ds0, p0, q0, hargs, rfl, rfl, h0, r0⟩ := trodAll_cons hA
  obtain ⟨v1, vs1, d1, ds1, p1, q1, rfl, rfl, rfl, h1, r1⟩ := trodAll_cons r0
  obtain ⟨rfl, rfl, rfl⟩ := trodAll_nil r1
  obtain rfl : args = #[v0, v1] := by cases args; simp_all
  obtain ⟨rfl, rfl⟩ := trodVars_none hV
  obtain ⟨sa, na, rfl, wsa, wna⟩ := open_day (hval 0 23 v0 rfl rfl) h0
  obtain ⟨sb, nb, rfl, wsb, wnb⟩ := open_day (hval 1 23 v1 rfl rfl) h1
  clear hA0 hval0
  refine (walk _ _ _ _ _ hT).mono fun e W' ⟨he, hb⟩ => ⟨_, he, ?_⟩
  exact law_post laidOut (of_decide_eq_true (by kernel_rfl)) rfl rfl Tryd.underlying4 (fun ds hl => by
    match ds, hl with
    | [_, _], _ => rfl) hW' hb

theorem proved : Rows.DayTellsSaid :=
  OpenClaim.holds_of_wide 4 Tryd.f4 rfl rfl rfl rfl rfl rfl rfl ⟨rfl, rfl, rfl, rfl, rfl⟩ rfl rfl rfl rfl rfl (by kernel_rfl) Tryd.func4 (by kernel_rfl)
    (of_decide_eq_true (by kernel_rfl)) (by unfold Func.isWrapper; first | (rw [if_pos (by decide +kernel)]; kernel_rfl) | (rw [if_neg (by decide +kernel)]; exact ⟨rfl, rfl⟩))
    (fun os started H enc _ => lifted os started H enc)
theorem card : Rows.DayTellsCardSaid :=
  Claim7.holds_tied_plain_at .later [] [.data, .data, .data, .data, .pinned] true (true, "9dad1e08f6c8d2027cebc61acc31d6ef1a689ef6c3038fbfe70cdb5ff32d60b7") false proved (fun _ h => by cases h) (by kernel_rfl) (fun _ h => by cases h) dayTells_row_tie rfl ⟨rfl, rfl⟩ (by kernel_rfl) rfl
    (fun f fn hf hfn => by
      obtain rfl : f = 4 := Option.some.inj ((show Tryd.prog.funcNamed "provost/provostlaw12.DayTells" = some 4 by kernel_rfl).symm.trans hf) |>.symm
      obtain rfl : fn = Tryd.f4 := (Option.some.inj (Tryd.func4.symm.trans hfn)).symm
      exact ⟨by kernel_rfl, fun j t ht => by
        rw [Tryd.params4] at ht
        have hm := Array.mem_of_getElem? ht
        have hall : (Tryd.f4.params.toList.all fun u => !Tryd.prog.wantsStandIn u) = true := by kernel_rfl
        rw [Tryd.params4] at hall
        exact (show Tryd.prog.wantsStandIn t = false by simpa using List.all_eq_true.1 hall t (by simpa using hm))⟩)
    (by kernel_rfl)
end Go.Proofs.YtdaadoiedaplaaaDoor.dayTells
