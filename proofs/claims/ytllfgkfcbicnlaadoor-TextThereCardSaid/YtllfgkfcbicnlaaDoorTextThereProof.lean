/- TextThere: what is put is gone through by Next, and by Back, as the same code points. Conditions: none. -/
import Derived.Test.YtllfgkfcbicnlaaDoorRows
import Derived.Test.YtllfgkfcbicnlaaDoorTextPut
import Derived.Test.YtllfgkfcbicnlaaDoorPutChain
import Derived.Test.YtllfgkfcbicnlaaDoorCheck
import Derived.Test.YtllfgkfcbicnlaaDoorBoth
import Derived.Test.YtllfgkfcbicnlaaDoorOpenIv
import Derived.Test.YtllfgkfcbicnlaaDoorTie
import Derived.Test.YtllfgkfcbicnlaaDoorCards
import Derived.ProofKit
import Derived.OpenShut
import Derived.LaidMore
import Derived.Lay
import Derived.SevenTiedAt
import Derived.Stop.Joined
import Derived.PinnedBridge
namespace Go.Proofs.YtllfgkfcbicnlaaDoor.textThere
open Go.RowKit
theorem post_out {xs : List Int} (hn : xs.length ≤ 1000) : putOf xs = (⟨#[]⟩, 10) ∨ (xs.all isPoint = true ∧ putOf xs = (strOfNums (encZ xs), 0)) := by
  unfold putOf
  rw [if_neg (by omega)]
  cases h : xs.all isPoint with
  | false => left; simp
  | true => right; simp
set_option maxHeartbeats 1000000 in
theorem walk_bad (A : Option Addr) (c : Nat) (xs : List Int) (w : World) {B : Nat} (hx : Rd w B A (iv xs)) (hB : B ≤ w.heap.size) (hn : xs.length ≤ 1000) (hT : Tabs w) (hp : putOf xs = (⟨#[]⟩, 10)) :
    Calls Tryd.prog 6 #[.slice A xs.length c] w fun e w' => e = .returned (.bool true) ∧ Below w.heap.size w w' := by
  have hq := fun W (h : Rd W B A (iv xs)) (h2 : B ≤ W.heap.size) => textput_any A c xs W h h2 (by omega)
  rw [hp] at hq
  clear hp
  have hm : (xs.length : Int) ≤ 1000 := by omega
  go_enter Tryd.func6, Tryd.ntmps6
  go_wp2_with fail
  refine (alive_any _ hT).mono ?_
  rintro e w1 ⟨rfl, hb1⟩
  go_wp2_with fail
  refine (hq _ (hx.thru hb1 hB) (Nat.le_trans hB hb1.size)).mono ?_
  rintro e w2 ⟨rfl, hb2⟩
  go_wp2
  go_ret
  exact ⟨rfl, hb1.trans (hb2.mono hb1.size)⟩
theorem walk_big (A : Option Addr) (c n : Nat) (w : World) (hn : 1000 < n) (hT : Tabs w) :
    Calls Tryd.prog 6 #[.slice A n c] w fun e w' => e = .returned (.bool true) ∧ Below w.heap.size w w' := by
  have hm : (1000 : Int) < n := by omega
  go_enter Tryd.func6, Tryd.ntmps6
  go_wp2_with fail
  refine (alive_any _ hT).mono ?_
  rintro e w1 ⟨rfl, hb1⟩
  go_wp2
  go_ret
  exact ⟨rfl, hb1⟩
set_option maxHeartbeats 2000000 in
theorem walk_good (A : Option Addr) (c : Nat) (xs : List Int) (w : World) {B : Nat} (hx : Rd w B A (iv xs)) (hB : B ≤ w.heap.size) (hn : xs.length ≤ 1000) (hT : Tabs w) (hall : xs.all isPoint = true) (hp : putOf xs = (strOfNums (encZ xs), 0)) :
    Calls Tryd.prog 6 #[.slice A xs.length c] w fun e w' => e = .returned (.bool true) ∧ Below w.heap.size w w' := by
  have hq := fun W (h : Rd W B A (iv xs)) (h2 : B ≤ W.heap.size) => textput_any A c xs W h h2 (by omega)
  rw [hp] at hq
  clear hp
  have hch := put_chain xs hall
  have hz : (strOfNums (encZ xs)).size ≤ 4000 := by
    rw [strOfNums_size]
    have := encZ_le xs
    omega
  generalize strOfNums (encZ xs) = s at hq hch hz
  have hsm : s.size ≤ maxLen := by unfold maxLen; omega
  have hck : checkV s = 0 := by
    unfold checkV
    rw [if_neg (by omega), if_pos hch.validD]
  have hcn : countV s = xs.length := by
    unfold countV
    rw [if_pos hck, hch.runeCount]
  have hct := fun W (h : Tabs W) => count_any s W hsm h
  rw [hcn, hck] at hct
  clear hck hcn
  have hstep : ∀ k (hk : k < xs.length), ∃ m : Nat, 1 ≤ m ∧ m ≤ 4 ∧ posZ xs k + m = posZ xs (k + 1) ∧ posZ xs (k + 1) ≤ 4000 ∧
      (∀ W, Tabs W → Calls Tryd.prog 9 #[.string s, .int .i64 (posZ xs k : Nat)] W fun e w' => e = .returned (.tuple #[.int .i64 xs[k], .int .i64 m, .int .i64 0]) ∧ Below W.heap.size W w') ∧
      (∀ W, Tabs W → Calls Tryd.prog 10 #[.string s, .int .i64 ((posZ xs k : Nat) + (m : Int))] W fun e w' => e = .returned (.tuple #[.int .i64 xs[k], .int .i64 m, .int .i64 0]) ∧ Below W.heap.size W w') := by
    intro k hk
    obtain ⟨h1, h2⟩ := hch.2.2 k hk
    have h3 := h2.end_le
    have h4 := isPoint_iff (List.all_eq_true.1 hall _ (List.getElem_mem hk))
    have h5 : (((xs.getD k 0).toNat : Nat) : Int) = xs[k] := by
      simp only [List.getD_eq_getElem?_getD, List.getElem?_eq_getElem hk, Option.getD_some]
      omega
    refine ⟨posZ xs (k + 1) - posZ xs k, by omega, by omega, by omega, by omega, fun W hW => ?_, fun W hW => ?_⟩
    · have := next_any s (posZ xs k : Nat) W hW
      rw [next_of_at h2] at this
      simp only [h5] at this
      exact this
    · have := back_any s ((posZ xs k : Nat) + ((posZ xs (k + 1) - posZ xs k : Nat) : Int)) W hsm hW
      rw [back_of_at h2] at this
      simp only [h5] at this
      exact this
  have hm : (xs.length : Int) ≤ 1000 := by omega
  have hend : posZ xs xs.length = s.size := hch.2.1
  have hbeg : posZ xs 0 = 0 := hch.1
  clear hch hall
  go_enter Tryd.func6, Tryd.ntmps6
  go_wp2_with fail
  refine (alive_any _ hT).mono ?_
  rintro e w1 ⟨rfl, hb1⟩
  have hT1 := hT.below hb1
  go_wp2_with fail
  refine (hq _ (hx.thru hb1 hB) (Nat.le_trans hB hb1.size)).mono ?_
  rintro e w2 ⟨rfl, hb2⟩
  have hT2 := hT1.below hb2
  go_wp2_with fail
  refine (hct _ hT2).mono ?_
  rintro e w3 ⟨rfl, hb3⟩
  have hT3 := hT2.below hb3
  have hb12 := hb1.trans (hb2.mono hb1.size)
  have hB3 := hb12.trans (hb3.mono hb12.size)
  have HE := Lib.hid hend
  have HS := Lib.hid hbeg
  clear hend hbeg hq hct hb1 hb2 hb3 hb12
  go_wp2
  go_loopw [8, 9] (fun a i wr => ∃ k : Nat, k ≤ xs.length ∧ i = .int .i64 k ∧ a = .int .i64 (posZ xs k : Nat) ∧ Tabs wr ∧ Below w.heap.size w wr) (fun _ i _ => xs.length - (intOf i).toNat)
  case atStart => exact ⟨0, Nat.zero_le _, rfl, by rw [HS.out]; rfl, hT3, hB3⟩
  case round =>
    obtain ⟨k, hk, rfl, rfl, hTr, hbr⟩ := hrel
    by_cases hlt : k < xs.length
    · obtain ⟨m, m1, m2, m3, m4, cn, cb⟩ := hstep k hlt
      have M3 := Lib.hid m3
      have hpk : posZ xs k ≤ 4000 := by omega
      clear hstep m3
      go_wp2_with fail
      refine (cn _ hTr).mono ?_
      rintro e w4 ⟨rfl, hb4⟩
      have hT4 := hTr.below hb4
      go_wp2_with fail
      refine (cb _ hT4).mono ?_
      rintro e w5 ⟨rfl, hb5⟩
      have hT5 := hT4.below hb5
      have hb45 := hb4.trans (hb5.mono hb4.size)
      have hB5 := hbr.trans (hb45.mono hbr.size)
      obtain ⟨b, off, rfl, hcell⟩ : ∃ b off, A = some ⟨b, off, none⟩ ∧ w5.cell? ⟨b, off + k, none⟩ = some (.int .i64 xs[k]) := by
        rcases hx.thru hB5 hB with h | ⟨b, off, e, _, h⟩
        · simp [iv] at h
          subst h
          simp at hlt
        · exact ⟨b, off, e, by simpa [iv] using h k (by simpa [iv] using hlt)⟩
      clear cn cb
      go_wp2
      go_roundw
      case rel => exact ⟨k + 1, hlt, by go_num, by rw [← M3.out]; go_num, hT5, hB5⟩
      case measure => simp [intOf]; omega
    · obtain rfl : k = xs.length := by omega
      have hE := HE.out
      go_wp2
      go_ret
      exact ⟨ret_bool (by simp), hbr⟩
theorem walk (A : Option Addr) (c : Nat) (xs : List Int) (w : World) (hx : Rd w w.heap.size A (iv xs)) (hT : Tabs w) :
    Calls Tryd.prog 6 #[.slice A xs.length c] w fun e w' => e = .returned (.bool true) ∧ Below w.heap.size w w' := by
  by_cases h : xs.length ≤ 1000
  · rcases post_out h with h2 | ⟨h2, h3⟩
    · exact walk_bad A c xs w hx (Nat.le_refl _) h hT h2
    · exact walk_good A c xs w hx (Nat.le_refl _) h hT h2 h3
  · exact walk_big A c xs.length w (by omega) hT
open Go.ChangeShapes Go.WideShapes Go.ChangeAt
open Go.ChangeMaps (open_string shut_string)
theorem own : ownKnob Tryd.prog.godebug = none := by kernel_rfl
theorem laidOut : laidOutB Tryd.prog = true := by kernel_rfl
def laidL : List (String × DataW Unit) := [("unicode/utf8.acceptRanges", Rows.laid_unicode_utf8_acceptRanges), ("unicode/utf8.first", Rows.laid_unicode_utf8_first)]
theorem first_eq : Rows.laid_unicode_utf8_first = Go.Lib.firstData := Pinned.utf8First_eq
theorem tabs_of {W : World} (h : laidMetH Tryd.prog laidL W) : Tabs W := by
  rw [MakeChecks.laidMetH_plain _ _ _ (by kernel_rfl)] at h
  have h1 : Go.Lib.VarReads Tryd.prog W "unicode/utf8.acceptRanges" Rows.laid_unicode_utf8_acceptRanges := Lib.laidMet.reads h (.head _)
  have h2 : Go.Lib.VarReads Tryd.prog W "unicode/utf8.first" Rows.laid_unicode_utf8_first := Lib.laidMet.reads h (.tail _ (.head _))
  rw [first_eq] at h2
  exact utf8Tabs_of_reads (ρ := Tryd.lays260_ren) { Tryd.lays260 with } ⟨by kernel_rfl, by kernel_rfl, by kernel_rfl, by kernel_rfl, by kernel_rfl, by kernel_rfl, by kernel_rfl⟩ h2 h1
set_option maxRecDepth 100000 in
theorem lifted (os : Os) (started : os.Started) (H : Type) (enc : TypeId × Value → H) :
    ReturnsInHanded {} Tryd.checked os 6 .any (fun w args => (Rows.textThereSpec.pre enc Tryd.prog Tryd.f6 Rows.textThereRow.domain false w args ∧ laidMetH Tryd.prog laidL w) ∧ sizedMet enc Tryd.prog Tryd.f6 (OpenSpec.ofChange Rows.textThereSpec) false w args)
      (Rows.textThereSpec.post enc Tryd.prog Tryd.f6 false true false false) := by
  refine returnsInHanded_of_change_and (C := Tryd.checked) (X := fun w _ => laidMetH Tryd.prog laidL w) (fun _ _ _ hh h => h.of_heap hh) own started (by kernel_rfl) Tryd.func6
    (ChangeSpec.witness_shaped (enc := enc) (C := Tryd.checked) (os := os) (X := fun w _ => laidMetH Tryd.prog laidL w) false (World.laidAll Tryd.prog os laidL) #[.slice none 0 0] 8 (World.laidAll_os _ _ _)
      (World.shaped_of_ZipB (by kernel_rfl) (by kernel_rfl)) (by kernel_rfl) (by kernel_rfl) (by kernel_rfl)
      (by rw [MakeChecks.laidMetH_plain _ _ _ (by kernel_rfl)]; exact laidMet_laidAll _ (by kernel_rfl) (by kernel_rfl))) ?_
  intro W base args ds gs before hval0 hW _ hsz0 hL _
  have hT : Tabs W := tabs_of hL
  have hsz : (DataW.weightsEach Tryd.prog (Tryd.f6.params.toList ++ Rows.textThereSpec.plain.varTypes Tryd.prog) (ds ++ gs)).all (· ≤ reachBytes) = true := hsz0
  have hval : ∀ (j : Nat) t v, Tryd.f6.params[j]? = some t → args[j]? = some v → Value.okWide Tryd.prog W .any base t v := hval0
  have hW' := hW
  obtain ⟨p, q, hA0, hV, rfl, hfz, hnd⟩ := hW
  have hA : DataW.TrodAll enc Tryd.prog W 0 (fun _ => true) true Tryd.f6.params.toList args.toList ds p := hA0
  rw [Tryd.params6] at hA hval hsz
  have hlt0 : ∀ x ∈ p, x.block < W.heap.size := fun x hx => hW'.lt x (by simp [hx])
  obtain ⟨v0, vs0, d0, ds0, p0, q0, hargs, rfl, rfl, h0, r0⟩ := trodAll_cons hA
  obtain ⟨rfl, rfl, rfl⟩ := trodAll_nil r0
  obtain rfl : args = #[v0] := by cases args; simp_all
  obtain ⟨rfl, rfl⟩ := trodVars_none hV
  obtain ⟨Al, cl, l, rfl, hl, wl⟩ := open_iv Tryd.underlying36 (hval 0 36 v0 rfl rfl) h0 (fun y hy => hlt0 y (by simp [hy]))
  clear hA0 hval0
  refine (walk Al cl l W hl hT).mono fun e W' ⟨he, hb⟩ => ⟨_, he, ?_⟩
  exact law_post laidOut (of_decide_eq_true (by kernel_rfl)) rfl rfl Tryd.underlying4 (fun ds hl => by
    match ds, hl with
    | [_], _ => rfl) hW' hb

theorem proved : Rows.TextThereSaid :=
  OpenClaim.holds_of_wide 6 Tryd.f6 rfl rfl rfl rfl rfl rfl rfl ⟨rfl, rfl, rfl, rfl, rfl⟩ rfl rfl rfl rfl rfl (by kernel_rfl) Tryd.func6 (by kernel_rfl)
    (of_decide_eq_true (by kernel_rfl)) (by unfold Func.isWrapper; first | (rw [if_pos (by decide +kernel)]; kernel_rfl) | (rw [if_neg (by decide +kernel)]; exact ⟨rfl, rfl⟩))
    (fun os started H enc _ => lifted os started H enc)
theorem card : Rows.TextThereCardSaid :=
  Claim7.holds_tied_plain_at .later [] [.data, .pinned] true (true, "43a461dede2be16f7040214212f4b4820fa7ab4f6fa1eab68a6d3d071a59e634") false proved (fun _ h => by cases h) (by kernel_rfl) (fun _ h => by cases h) textThere_row_tie rfl ⟨rfl, rfl⟩ (by kernel_rfl) rfl
    (fun f fn hf hfn => by
      obtain rfl : f = 6 := Option.some.inj ((show Tryd.prog.funcNamed "provost/provostlaw01.TextThere" = some 6 by kernel_rfl).symm.trans hf) |>.symm
      obtain rfl : fn = Tryd.f6 := (Option.some.inj (Tryd.func6.symm.trans hfn)).symm
      exact ⟨by kernel_rfl, fun j t ht => by
        rw [Tryd.params6] at ht
        have hm := Array.mem_of_getElem? ht
        have hall : (Tryd.f6.params.toList.all fun u => !Tryd.prog.wantsStandIn u) = true := by kernel_rfl
        rw [Tryd.params6] at hall
        exact (show Tryd.prog.wantsStandIn t = false by simpa using List.all_eq_true.1 hall t (by simpa using hm))⟩)
    (by kernel_rfl)
end Go.Proofs.YtllfgkfcbicnlaaDoor.textThere
