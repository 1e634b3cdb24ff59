/- TextNames: the limits, and the chapter's examples. Conditions: none. -/
import Derived.Test.YtllfgkfcbicnlaaDoorRows
import Derived.Test.YtllfgkfcbicnlaaDoorTextPut
import Derived.Test.YtllfgkfcbicnlaaDoorWhere
import Derived.Laws.OwnMore
import Derived.Test.YtllfgkfcbicnlaaDoorTie
import Derived.Test.YtllfgkfcbicnlaaDoorCards
import Derived.ProofKit
import Derived.OpenShut
import Derived.LaidMore
import Derived.Lay
import Derived.SevenTiedAt
import Derived.Stop.Joined
import Derived.PinnedBridge
namespace Go.Proofs.YtllfgkfcbicnlaaDoor.textNames
open Go.RowKit Go.Lib
def s0 : ByteArray := ⟨#[97, 13, 10, 226, 130, 172, 98]⟩
def P0 (i : Nat) : Nat := [0, 1, 2, 3, 6, 7].getD i 0
def X0 (i : Nat) : Nat := [97, 13, 10, 8364, 98].getD i 0
theorem chain0 : Chain (byt s0) s0.size 5 P0 X0 := by
  refine ⟨rfl, by decide +kernel, fun i hi => ?_⟩
  match i, hi with
  | 0, _ => exact ⟨by decide, .inl (by decide +kernel)⟩
  | 1, _ => exact ⟨by decide, .inl (by decide +kernel)⟩
  | 2, _ => exact ⟨by decide, .inl (by decide +kernel)⟩
  | 3, _ => exact ⟨by decide, .inr (.inr (.inl (by decide +kernel)))⟩
  | 4, _ => exact ⟨by decide, .inl (by decide +kernel)⟩
theorem info_u8 : (Tryd.prog.info? 5).map (fun i => (i.zero, i.size, i.bytes)) = some (some (.int .u8 0), 1, 1) := by kernel_rfl
theorem make_text (w : World) : ∃ (s : ByteArray) (w' : World), s.size = 16385 ∧
    (Instr.makeSlice 40 (.int .i64 16385) (.int .i64 16385)).run Tryd.prog w = .ok (.slice (some ⟨w.heap.size, 0, none⟩) 16385 16385) w' ∧
    (convert 40 9 (.slice (some ⟨w.heap.size, 0, none⟩) 16385 16385)).run Tryd.prog w' = .ok (.string s) w' ∧ Below w.heap.size w w' := by
  obtain ⟨i0, hi, hz0, hz1, hz2⟩ := info_parts info_u8
  obtain ⟨w', h1, h2, h3⟩ := run_make_full (P := Tryd.prog) w w.heap.size 40 5 i0 (.int .u8 0) 1 Tryd.underlying40 hi hz0 hz1 .i64 .i64 16385 (by rw [hz2]; omega) (by unfold maxLen; omega) (Nat.le_refl _)
  have h4 : (madeCells (Value.int .u8 0).cells (16385 * 1)).toList = (List.replicate 16385 (0 : Int)).map (Value.int .u8) := by
    rw [show (Value.int .u8 0).cells = #[.int .u8 0] from rfl, toList_madeCells_one, List.map_replicate]
  rw [h4] at h2
  refine ⟨strOfNums (List.replicate 16385 (0 : Int)), w', by rw [strOfNums_size, List.length_replicate], h1, own_text (by rw [List.length_replicate]) h2, (Below.refl _ _).grown h3 (Nat.le_refl _) (fun k e => by cases e)⟩
set_option maxHeartbeats 1000000 in
theorem walk (w : World) (hT : Tabs w) :
    Calls Tryd.prog 7 #[] w fun e w' => e = .returned (.bool true) ∧ Below w.heap.size w w' := by
  have hl : lcs s0 P0 X0 4 = (2, 2) := by decide +kernel
  have hw := fun W (h : Tabs W) => where_at s0 chain0 (by decide +kernel) (k := 4) (by omega) W h
  rw [hl, show P0 4 = 6 from rfl] at hw
  have hp : putOf [55296] = (⟨#[]⟩, 10) := by decide +kernel
  have n1 : nextV ⟨#[192, 128]⟩ 0 = (0, 0, 10) := by decide +kernel
  have n2 : nextV ⟨#[237, 160, 128]⟩ 0 = (0, 0, 10) := by decide +kernel
  have n3 : nextV ⟨#[244, 144, 128, 128]⟩ 0 = (0, 0, 10) := by decide +kernel
  have n4 : nextV ⟨#[97]⟩ 1 = (0, 0, 2) := by decide +kernel
  clear hl
  go_enter Tryd.func7, Tryd.ntmps7
  go_wp2_with fail
  refine (hw _ hT).mono ?_
  rintro e w1 ⟨rfl, hb1⟩
  have hT1 := hT.below hb1
  have hq := textput_any (some ⟨w1.heap.size, 0, none⟩) 1 [55296] (w1.alloc (.cells #[.int .i64 55296] 3)) (rd_new w1 #[.int .i64 55296] 3 (iv [55296]) rfl) (by simp) (by simp)
  rw [hp] at hq
  have hb1' : Below w.heap.size w (w1.alloc (.cells #[.int .i64 55296] 3)) := hb1.alloc hb1.size _
  clear hw hT
  go_wp2_with fail
  refine hq.mono ?_
  rintro e w2 ⟨rfl, hb2⟩
  have hB2 := hb1'.trans (hb2.mono hb1'.size)
  have hT2 := (hT1.below ((Below.refl _ w1).alloc (Nat.le_refl _) (.cells #[.int .i64 55296] 3))).below hb2
  clear hq hb1' hb1 hb2 hT1
  go_wp2_with fail
  refine (alive_any _ hT2).mono ?_
  rintro e w3 ⟨rfl, hb3⟩
  have hB3 := hB2.trans (hb3.mono hB2.size)
  have hT3 := hT2.below hb3
  clear hB2 hb3 hT2
  go_wp2_with fail
  refine (lnext_any _ 0 0 0 10 _ hT3 n1).mono ?_
  rintro e w4 ⟨rfl, hb4⟩
  have hB4 := hB3.trans (hb4.mono hB3.size)
  have hT4 := hT3.below hb4
  clear hB3 hb4 hT3
  go_wp2_with fail
  refine (lnext_any _ 0 0 0 10 _ hT4 n2).mono ?_
  rintro e w5 ⟨rfl, hb5⟩
  have hB5 := hB4.trans (hb5.mono hB4.size)
  have hT5 := hT4.below hb5
  clear hB4 hb5 hT4
  go_wp2_with fail
  refine (lnext_any _ 0 0 0 10 _ hT5 n3).mono ?_
  rintro e w6 ⟨rfl, hb6⟩
  have hB6 := hB5.trans (hb6.mono hB5.size)
  have hT6 := hT5.below hb6
  clear hB5 hb6 hT5
  go_wp2_with fail
  refine (lnext_any _ 1 0 0 2 _ hT6 n4).mono ?_
  rintro e w7 ⟨rfl, hb7⟩
  have hB7 := hB6.trans (hb7.mono hB6.size)
  have hT7 := hT6.below hb7
  clear hB6 hb7 hT6
  obtain ⟨s, w8, hz, hmk, hcv, hb8⟩ := make_text w7
  have hB8 := hB7.trans (hb8.mono hB7.size)
  have hc := check_any s w8 (by unfold maxLen; omega) (hT7.below hb8)
  rw [show checkV s = 4 by unfold checkV; rw [if_pos (by omega)]] at hc
  clear hT7 hb8 hB7
  go_wp2_with fail
  refine hc.mono ?_
  rintro e w9 ⟨rfl, hb9⟩
  go_wp2
  go_ret
  exact ⟨rfl, hB8.trans (hb9.mono hB8.size)⟩
open Go.ChangeShapes Go.WideShapes Go.ChangeAt
open Go.ChangeMaps (open_string shut_string)
theorem own : ownKnob Tryd.prog.godebug = none := by kernel_rfl
theorem laidOut : laidOutB Tryd.prog = true := by kernel_rfl
def laidL : List (String × DataW Unit) := [("unicode/utf8.acceptRanges", Rows.laid_unicode_utf8_acceptRanges), ("unicode/utf8.first", Rows.laid_unicode_utf8_first)]
theorem first_eq : Rows.laid_unicode_utf8_first = Go.Lib.firstData := Pinned.utf8First_eq
theorem tabs_of {W : World} (h : laidMetH Tryd.prog laidL W) : Tabs W := by
  rw [MakeChecks.laidMetH_plain _ _ _ (by kernel_rfl)] at h
  have h1 : Go.Lib.VarReads Tryd.prog W "unicode/utf8.acceptRanges" Rows.laid_unicode_utf8_acceptRanges := Lib.laidMet.reads h (.head _)
  have h2 : Go.Lib.VarReads Tryd.prog W "unicode/utf8.first" Rows.laid_unicode_utf8_first := Lib.laidMet.reads h (.tail _ (.head _))
  rw [first_eq] at h2
  exact utf8Tabs_of_reads (ρ := Tryd.lays260_ren) { Tryd.lays260 with } ⟨by kernel_rfl, by kernel_rfl, by kernel_rfl, by kernel_rfl, by kernel_rfl, by kernel_rfl, by kernel_rfl⟩ h2 h1
set_option maxRecDepth 100000 in
theorem lifted (os : Os) (started : os.Started) (H : Type) (enc : TypeId × Value → H) :
    ReturnsInHanded {} Tryd.checked os 7 .any (fun w args => (Rows.textNamesSpec.pre enc Tryd.prog Tryd.f7 Rows.textNamesRow.domain false w args ∧ laidMetH Tryd.prog laidL w) ∧ sizedMet enc Tryd.prog Tryd.f7 (OpenSpec.ofChange Rows.textNamesSpec) false w args)
      (Rows.textNamesSpec.post enc Tryd.prog Tryd.f7 false true false false) := by
  refine returnsInHanded_of_change_and (C := Tryd.checked) (X := fun w _ => laidMetH Tryd.prog laidL w) (fun _ _ _ hh h => h.of_heap hh) own started (by kernel_rfl) Tryd.func7
    (ChangeSpec.witness_shaped (enc := enc) (C := Tryd.checked) (os := os) (X := fun w _ => laidMetH Tryd.prog laidL w) false (World.laidAll Tryd.prog os laidL) #[] 8 (World.laidAll_os _ _ _)
      (World.shaped_of_ZipB (by kernel_rfl) (by kernel_rfl)) (by kernel_rfl) (by kernel_rfl) (by kernel_rfl)
      (by rw [MakeChecks.laidMetH_plain _ _ _ (by kernel_rfl)]; exact laidMet_laidAll _ (by kernel_rfl) (by kernel_rfl))) ?_
  intro W base args ds gs before hval0 hW _ hsz0 hL _
  have hT : Tabs W := tabs_of hL
  have hsz : (DataW.weightsEach Tryd.prog (Tryd.f7.params.toList ++ Rows.textNamesSpec.plain.varTypes Tryd.prog) (ds ++ gs)).all (· ≤ reachBytes) = true := hsz0
  have hval : ∀ (j : Nat) t v, Tryd.f7.params[j]? = some t → args[j]? = some v → Value.okWide Tryd.prog W .any base t v := hval0
  have hW' := hW
  obtain ⟨p, q, hA0, hV, rfl, hfz, hnd⟩ := hW
  have hA : DataW.TrodAll enc Tryd.prog W 0 (fun _ => true) true Tryd.f7.params.toList args.toList ds p := hA0
  rw [Tryd.params7] at hA hval hsz
  have hlt0 : ∀ x ∈ p, x.block < W.heap.size := fun x hx => hW'.lt x (by simp [hx])
  obtain ⟨hargs, rfl, rfl⟩ := trodAll_nil hA
  obtain rfl : args = #[] := by cases args; simp_all
  obtain ⟨rfl, rfl⟩ := trodVars_none hV
  clear hA0 hval0
  refine (walk W hT).mono fun e W' ⟨he, hb⟩ => ⟨_, he, ?_⟩
  exact law_post laidOut (of_decide_eq_true (by kernel_rfl)) rfl rfl Tryd.underlying4 (fun ds hl => by
    match ds, hl with
    | [], _ => rfl) hW' hb

theorem proved : Rows.TextNamesSaid :=
  OpenClaim.holds_of_wide 7 Tryd.f7 rfl rfl rfl rfl rfl rfl rfl ⟨rfl, rfl, rfl, rfl, rfl⟩ rfl rfl rfl rfl rfl (by kernel_rfl) Tryd.func7 (by kernel_rfl)
    (of_decide_eq_true (by kernel_rfl)) (by unfold Func.isWrapper; first | (rw [if_pos (by decide +kernel)]; kernel_rfl) | (rw [if_neg (by decide +kernel)]; exact ⟨rfl, rfl⟩))
    (fun os started H enc _ => lifted os started H enc)
theorem card : Rows.TextNamesCardSaid :=
  Claim7.holds_tied_plain_at .later [] [.data, .pinned] true (true, "43a461dede2be16f7040214212f4b4820fa7ab4f6fa1eab68a6d3d071a59e634") false proved (fun _ h => by cases h) (by kernel_rfl) (fun _ h => by cases h) textNames_row_tie rfl ⟨rfl, rfl⟩ (by kernel_rfl) rfl
    (fun f fn hf hfn => by
      obtain rfl : f = 7 := Option.some.inj ((show Tryd.prog.funcNamed "provost/provostlaw01.TextNames" = some 7 by kernel_rfl).symm.trans hf) |>.symm
      obtain rfl : fn = Tryd.f7 := (Option.some.inj (Tryd.func7.symm.trans hfn)).symm
      exact ⟨by kernel_rfl, fun j t ht => by
        rw [Tryd.params7] at ht
        simp at ht⟩)
    (by kernel_rfl)
end Go.Proofs.YtllfgkfcbicnlaaDoor.textNames
