/- DayNames: the limits, and the chapter's examples. Conditions: none. -/
import Derived.Test.YtdaadoiedaplaaaDoorRows
import Derived.Test.YtdaadoiedaplaaaDoorOpenD
import Derived.Test.YtdaadoiedaplaaaDoorTie
import Derived.Test.YtdaadoiedaplaaaDoorCards
import Derived.ProofKit
import Derived.OpenShut
import Derived.LaidMore
import Derived.Lay
import Derived.Lib.LaidU8
import Derived.Lib.LaidTab
import Derived.SevenTiedAt
import Derived.Stop.Joined
import Derived.PinnedBridge
namespace Go.Proofs.YtdaadoiedaplaaaDoor.dayNames
open Go.RowKit Go.Lib
set_option maxHeartbeats 4000000 in
theorem walk (w : World) (hP : Pow w) : Calls Tryd.prog 5 #[] w fun e w' => e = .returned (.bool true) ∧ Below w.heap.size w w' := by
  have hp := fun W => parse_any ⟨#[50, 48, 48, 48, 45, 48, 50, 45, 50, 57, 84, 50, 51, 58, 53, 57, 58, 53, 57, 45, 48, 48, 58, 51, 48]⟩ W (by decide)
  have hv : ParseV ⟨#[50, 48, 48, 48, 45, 48, 50, 45, 50, 57, 84, 50, 51, 58, 53, 57, 58, 53, 57, 45, 48, 48, 58, 51, 48]⟩ = .tuple #[.agg #[.int .i64 63119089799, .int .i64 0], .int .i64 0] := by kernel_rfl
  rw [hv] at hp
  have hx := fun W h => text_any 63119089799 0 W h
  have hv2 : TextV 63119089799 0 = .tuple #[.string ⟨#[50, 48, 48, 48, 45, 48, 51, 45, 48, 49, 84, 48, 48, 58, 50, 57, 58, 53, 57, 90]⟩, .int .i64 0] := by kernel_rfl
  rw [hv2] at hx
  clear hv hv2
  go_enter Tryd.func5, Tryd.ntmps5
  go_wp2_with fail
  refine (hp _).mono ?_
  rintro e w1 ⟨rfl, hb1⟩
  have HP1 := Lib.hid ((hP.below hb1).below (bAl _ (.cells #[.int .i64 63119089799, .int .i64 0] 23)))
  have HB := Lib.hid (bt hb1 hb1.size (bAl _ (.cells #[.int .i64 63119089799, .int .i64 0] 23)))
  have HS := Lib.hid hb1.size
  clear hb1
  go_wp2_with fail
  refine (hx _ HP1.out).mono ?_
  rintro e w2 ⟨rfl, hb2⟩
  obtain ⟨c0, c1⟩ := day_cells _ _ _ _ hb2
  have HP2 := Lib.hid (HP1.out.below hb2)
  have HB2 := Lib.hid (bt HB.out HB.out.size hb2)
  clear hb2
  clear HB HP1
  go_wp2_with fail
  refine (none_any ⟨#[49, 57, 48, 48, 45, 48, 50, 45, 50, 57, 84, 48, 48, 58, 48, 48, 58, 48, 48, 90]⟩ _ (by decide) (by kernel_rfl)).mono ?_
  rintro e w3 ⟨rfl, hb⟩
  have HP3 := Lib.hid (HP2.out.below hb)
  have HB3 := Lib.hid (bt HB2.out HB2.out.size hb)
  clear hb HB2 HP2
  go_wp2_with fail
  refine (none_any ⟨#[48, 48, 48, 48, 45, 48, 49, 45, 48, 49, 84, 48, 48, 58, 48, 48, 58, 48, 48, 43, 48, 48, 58, 48, 49]⟩ _ (by decide) (by kernel_rfl)).mono ?_
  rintro e w4 ⟨rfl, hb⟩
  have HP4 := Lib.hid (HP3.out.below hb)
  have HB4 := Lib.hid (bt HB3.out HB3.out.size hb)
  clear hb HB3 HP3
  go_wp2_with fail
  refine (none_any ⟨#[50, 48, 48, 48, 45, 48, 49, 45, 48, 49, 84, 48, 48, 58, 48, 48, 58, 54, 48, 90]⟩ _ (by decide) (by kernel_rfl)).mono ?_
  rintro e w5 ⟨rfl, hb⟩
  have HP5 := Lib.hid (HP4.out.below hb)
  have HB5 := Lib.hid (bt HB4.out HB4.out.size hb)
  clear hb HB4 HP4
  go_wp2_with fail
  refine (none_any ⟨#[]⟩ _ (by decide) (by kernel_rfl)).mono ?_
  rintro e w6 ⟨rfl, hb⟩
  have HP6 := Lib.hid (HP5.out.below hb)
  have HB6 := Lib.hid (bt HB5.out HB5.out.size hb)
  clear hb HB5 HP5
  go_wp2_with fail
  refine (none_any ⟨#[57, 57, 57, 57, 45, 49, 50, 45, 51, 49, 84, 50, 51, 58, 53, 57, 58, 53, 57, 45, 48, 48, 58, 48, 49]⟩ _ (by decide) (by kernel_rfl)).mono ?_
  rintro e w7 ⟨rfl, hb⟩
  have HP7 := Lib.hid (HP6.out.below hb)
  have HB7 := Lib.hid (bt HB6.out HB6.out.size hb)
  clear hb HB6 HP6
  go_wp2_with fail
  refine (alive_any _ HP7.out).mono ?_
  rintro e w8 ⟨rfl, hb⟩
  have HP8 := Lib.hid (HP7.out.below hb)
  have HB8 := Lib.hid (bt HB7.out HB7.out.size hb)
  clear hb HB7 HP7
  go_wp2_with fail
  refine (reads_any ⟨#[57, 57, 57, 57, 45, 49, 50, 45, 51, 49, 84, 50, 51, 58, 53, 57, 58, 53, 57, 46, 57, 57, 57, 57, 57, 57, 57, 57, 57, 90]⟩ ⟨#[57, 57, 57, 57, 45, 49, 50, 45, 51, 49, 84, 50, 51, 58, 53, 57, 58, 53, 57, 46, 57, 57, 57, 57, 57, 57, 57, 57, 57, 90]⟩ 315569519999 999999999 _ HP8.out (by decide) (by kernel_rfl) (by kernel_rfl) (by kernel_rfl)).mono ?_
  rintro e w9 ⟨rfl, hb⟩
  have HB9 := Lib.hid (bt HB8.out HB8.out.size hb)
  clear hb
  go_wp2_with fail
  go_ret
  exact ⟨rfl, HB9.out⟩
open Go.ChangeShapes Go.WideShapes Go.ChangeAt
theorem own : ownKnob Tryd.prog.godebug = none := by kernel_rfl
theorem laidOut : laidOutB Tryd.prog = true := by kernel_rfl
def laidL : List (String × DataW Unit) := [("math/bits.deBruijn32tab", Rows.laid_math_bits_deBruijn32tab), ("math/bits.deBruijn64tab", Rows.laid_math_bits_deBruijn64tab), ("internal/strconv.uint64pow10", Rows.laid_internal_strconv_uint64pow10), ("unicode/utf8.acceptRanges", Rows.laid_unicode_utf8_acceptRanges), ("unicode/utf8.first", Rows.laid_unicode_utf8_first)]
theorem tabIs_of_reads {P : Program} {W : World} {name : String} {k : IntKind} {zs : List Int} {g : Nat} {t e : TypeId} {n : Nat}
    (hg : P.globalNamed name = some g) (hty : (P.globals[g]?).map (·.type) = some t) (ht : P.underlying t = some (.array n e)) (he : P.underlying e = some (.int k)) (hce : P.cellsOf e = 1) (hct : P.cellsOf t = n)
    (h : Lib.VarReads P W name (Lib.tabData k zs)) : Lib.TabIs P W name k zs := by
  obtain ⟨g', t', cs, fuel, p, hg', ht', hvar, hd⟩ := h
  obtain rfl := Option.some.inj (hg.symm.trans hg')
  obtain rfl := Option.some.inj (hty.symm.trans ht')
  unfold Lib.TabIs
  rw [hvar, ← Lib.cells_of_tab ht he hce hct hd]
theorem pow_eq : (Rows.laid_internal_strconv_uint64pow10 : DataW Unit) = Lib.tabData .u64 Lib.pow10Tab := by kernel_rfl
theorem tabs_of {W : World} (h : laidMetH Tryd.prog laidL W) : Pow W := by
  rw [MakeChecks.laidMetH_plain _ _ _ (by kernel_rfl)] at h
  have h1 : Lib.VarReads Tryd.prog W "internal/strconv.uint64pow10" Rows.laid_internal_strconv_uint64pow10 := Lib.laidMet.reads h (.tail _ (.tail _ (.head _)))
  rw [pow_eq] at h1
  exact tabIs_of_reads (g := (Tryd.prog.globalNamed "internal/strconv.uint64pow10").getD 0) (t := 126) (e := 107) (n := 20) (by kernel_rfl) (by kernel_rfl) (by kernel_rfl) (by kernel_rfl) (by kernel_rfl) (by kernel_rfl) h1
set_option maxRecDepth 100000 in
theorem lifted (os : Os) (started : os.Started) (H : Type) (enc : TypeId × Value → H) :
    ReturnsInHanded {} Tryd.checked os 5 .any (fun w args => (Rows.dayNamesSpec.pre enc Tryd.prog Tryd.f5 Rows.dayNamesRow.domain false w args ∧ laidMetH Tryd.prog laidL w) ∧ sizedMet enc Tryd.prog Tryd.f5 (OpenSpec.ofChange Rows.dayNamesSpec) false w args)
      (Rows.dayNamesSpec.post enc Tryd.prog Tryd.f5 false true false false) := by
  refine returnsInHanded_of_change_and (C := Tryd.checked) (X := fun w _ => laidMetH Tryd.prog laidL w) (fun _ _ _ hh h => h.of_heap hh) own started (by kernel_rfl) Tryd.func5
    (ChangeSpec.witness_shaped (enc := enc) (C := Tryd.checked) (os := os) (X := fun w _ => laidMetH Tryd.prog laidL w) false (World.laidAll Tryd.prog os laidL) #[] 8 (World.laidAll_os _ _ _)
      (World.shaped_of_ZipB (by kernel_rfl) (by kernel_rfl)) (by kernel_rfl) (by kernel_rfl) (by kernel_rfl)
      (by rw [MakeChecks.laidMetH_plain _ _ _ (by kernel_rfl)]; exact laidMet_laidAll _ (by kernel_rfl) (by kernel_rfl))) ?_
  intro W base args ds gs before hval0 hW _ hsz0 hL _
  have hT : Pow W := tabs_of hL
  have hsz : (DataW.weightsEach Tryd.prog (Tryd.f5.params.toList ++ Rows.dayNamesSpec.plain.varTypes Tryd.prog) (ds ++ gs)).all (· ≤ reachBytes) = true := hsz0
  have hval : ∀ (j : Nat) t v, Tryd.f5.params[j]? = some t → args[j]? = some v → Value.okWide Tryd.prog W .any base t v := hval0
  have hW' := hW
  obtain ⟨p, q, hA0, hV, rfl, hfz, hnd⟩ := hW
  have hA : DataW.TrodAll enc Tryd.prog W 0 (fun _ => true) true Tryd.f5.params.toList args.toList ds p := hA0
  rw [Tryd.params5] at hA hval hsz
  have hlt0 : ∀ x ∈ p, x.block < W.heap.size := fun x hx => hW'.lt x (by simp [hx])
  obtain ⟨hargs, rfl, rfl⟩ := trodAll_nil hA
  obtain rfl : args = #[] := by cases args; simp_all
  obtain ⟨rfl, rfl⟩ := trodVars_none hV
  clear hA0 hval0
  refine (walk _ hT).mono fun e W' ⟨he, hb⟩ => ⟨_, he, ?_⟩
  exact law_post laidOut (of_decide_eq_true (by kernel_rfl)) rfl rfl Tryd.underlying4 (fun ds hl => by
    match ds, hl with
    | [], _ => rfl) hW' hb

theorem proved : Rows.DayNamesSaid :=
  OpenClaim.holds_of_wide 5 Tryd.f5 rfl rfl rfl rfl rfl rfl rfl ⟨rfl, rfl, rfl, rfl, rfl⟩ rfl rfl rfl rfl rfl (by kernel_rfl) Tryd.func5 (by kernel_rfl)
    (of_decide_eq_true (by kernel_rfl)) (by unfold Func.isWrapper; first | (rw [if_pos (by decide +kernel)]; kernel_rfl) | (rw [if_neg (by decide +kernel)]; exact ⟨rfl, rfl⟩))
    (fun os started H enc _ => lifted os started H enc)
theorem card : Rows.DayNamesCardSaid :=
  Claim7.holds_tied_plain_at .later [] [.data, .data, .data, .data, .pinned] true (true, "9dad1e08f6c8d2027cebc61acc31d6ef1a689ef6c3038fbfe70cdb5ff32d60b7") false proved (fun _ h => by cases h) (by kernel_rfl) (fun _ h => by cases h) dayNames_row_tie rfl ⟨rfl, rfl⟩ (by kernel_rfl) rfl
    (fun f fn hf hfn => by
      obtain rfl : f = 5 := Option.some.inj ((show Tryd.prog.funcNamed "provost/provostlaw12.DayNames" = some 5 by kernel_rfl).symm.trans hf) |>.symm
      obtain rfl : fn = Tryd.f5 := (Option.some.inj (Tryd.func5.symm.trans hfn)).symm
      exact ⟨by kernel_rfl, fun j t ht => by
        rw [Tryd.params5] at ht
        simp at ht⟩)
    (by kernel_rfl)
end Go.Proofs.YtdaadoiedaplaaaDoor.dayNames

