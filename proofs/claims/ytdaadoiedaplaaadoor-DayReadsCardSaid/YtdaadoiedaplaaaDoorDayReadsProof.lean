/- DayReads: what texts tell is as is said. Conditions: none. -/
import Derived.Test.YtdaadoiedaplaaaDoorRows
import Derived.Test.YtdaadoiedaplaaaDoorRefParse2
import Derived.Test.YtdaadoiedaplaaaDoorTie
import Derived.Test.YtdaadoiedaplaaaDoorCards
import Derived.ProofKit
import Derived.OpenShut
import Derived.LaidMore
import Derived.Lay
import Derived.Lib.LaidU8
import Derived.Lib.LaidTab
import Derived.SevenTiedAt
import Derived.Stop.Joined
import Derived.PinnedBridge
namespace Go.Proofs.YtdaadoiedaplaaaDoor.dayReads
open Go.RowKit Go.Lib
set_option maxHeartbeats 4000000 in
theorem walk0 (s : ByteArray) (w : World) (a b E : Int)
    (x1 : ∀ W, Calls Tryd.prog 10 #[.string s] W fun e w' => e = .returned (.tuple #[.agg #[.int .i64 a, .int .i64 b], .int .i64 E]) ∧ Below W.heap.size W w')
    (x2 : ∀ W, Calls Tryd.prog 11 #[.string s] W fun e w' => e = .returned (.tuple #[.agg #[.int .i64 a, .int .i64 b], .int .i64 E]) ∧ Below W.heap.size W w') :
    Calls Tryd.prog 3 #[.string s] w fun e w' => e = .returned (.bool true) ∧ Below w.heap.size w w' := by
  go_enter Tryd.func3, Tryd.ntmps3
  go_wp2_with fail
  refine (x1 _).mono ?_
  rintro e w1 ⟨rfl, hb1⟩
  go_wp2_with fail
  refine (x2 _).mono ?_
  rintro e w2 ⟨rfl, hb2⟩
  obtain ⟨c0, c1⟩ := day_cells _ _ _ _ hb2
  have hz : w1.heap.size < w2.heap.size := by have := hb2.size; simp at this; omega
  have HB := Lib.hid (bt (bt (bt hb1 hb1.size (bAl _ _)) (by have := hb1.size; simp; omega) hb2) (by have := hb1.size; omega) (bAl w2 (.cells #[.int .i64 a, .int .i64 b] 23)))
  clear hb1 hb2
  go_wp2_with fail
  go_ret
  exact ⟨rfl, HB.out⟩
theorem walk (s : ByteArray) (w : World) (hs : s.size ≤ maxLen) : Calls Tryd.prog 3 #[.string s] w fun e w' => e = .returned (.bool true) ∧ Below w.heap.size w w' := by
  have x1 := fun W => parse_any s W hs
  have hv : ParseV s = pv (parseR s.data.toList) := by unfold ParseV; rw [parse_eq]
  rw [hv] at x1
  have x2 : ∀ W, Calls Tryd.prog 11 #[.string s] W fun e w' => e = .returned (pv (parseR s.data.toList)) ∧ Below W.heap.size W w' := by
    intro W
    by_cases h20 : s.size < 20
    · have h := parse_short s W hs h20
      have hn : parseR s.data.toList = none := by
        unfold parseR
        rw [if_neg]
        rintro ⟨h1, _⟩
        have := h1.1
        rw [ba_len] at this
        omega
      rw [hn]
      exact h
    · by_cases h19 : ((s[19]'(Nat.lt_of_lt_of_le (by decide) (Nat.not_lt.1 h20))).toNat : Int) = 46
      · exact parse_dot s W hs (Nat.not_lt.1 h20) h19
      · exact parse_plain s W hs (Nat.not_lt.1 h20) (by rw [beq_eq_false_iff_ne]; exact h19)
  generalize parseR s.data.toList = P at *
  rcases P with _ | ⟨a, b⟩
  · exact walk0 s w 0 0 120 x1 x2
  · exact walk0 s w a b 0 x1 x2
open Go.ChangeShapes Go.WideShapes Go.ChangeAt
open Go.ChangeMaps (open_string shut_string)
theorem own : ownKnob Tryd.prog.godebug = none := by kernel_rfl
theorem laidOut : laidOutB Tryd.prog = true := by kernel_rfl
def laidL : List (String × DataW Unit) := [("unicode/utf8.acceptRanges", Rows.laid_unicode_utf8_acceptRanges), ("unicode/utf8.first", Rows.laid_unicode_utf8_first)]
set_option maxRecDepth 100000 in
theorem lifted (os : Os) (started : os.Started) (H : Type) (enc : TypeId × Value → H) :
    ReturnsInHanded {} Tryd.checked os 3 .any (fun w args => (Rows.dayReadsSpec.pre enc Tryd.prog Tryd.f3 Rows.dayReadsRow.domain false w args ∧ laidMetH Tryd.prog laidL w) ∧ sizedMet enc Tryd.prog Tryd.f3 (OpenSpec.ofChange Rows.dayReadsSpec) false w args)
      (Rows.dayReadsSpec.post enc Tryd.prog Tryd.f3 false true false false) := by
  refine returnsInHanded_of_change_and (C := Tryd.checked) (X := fun w _ => laidMetH Tryd.prog laidL w) (fun _ _ _ hh h => h.of_heap hh) own started (by kernel_rfl) Tryd.func3
    (ChangeSpec.witness_shaped (enc := enc) (C := Tryd.checked) (os := os) (X := fun w _ => laidMetH Tryd.prog laidL w) false (World.laidAll Tryd.prog os laidL) #[.string ⟨#[]⟩] 8 (World.laidAll_os _ _ _)
      (World.shaped_of_ZipB (by kernel_rfl) (by kernel_rfl)) (by kernel_rfl) (by kernel_rfl) (by kernel_rfl)
      (by rw [MakeChecks.laidMetH_plain _ _ _ (by kernel_rfl)]; exact laidMet_laidAll _ (by kernel_rfl) (by kernel_rfl))) ?_
  intro W base args ds gs before hval0 hW _ hsz0 hL _
  have hsz : (DataW.weightsEach Tryd.prog (Tryd.f3.params.toList ++ Rows.dayReadsSpec.plain.varTypes Tryd.prog) (ds ++ gs)).all (· ≤ reachBytes) = true := hsz0
  have hval : ∀ (j : Nat) t v, Tryd.f3.params[j]? = some t → args[j]? = some v → Value.okWide Tryd.prog W .any base t v := hval0
  have hW' := hW
  obtain ⟨p, q, hA0, hV, rfl, hfz, hnd⟩ := hW
  have hA : DataW.TrodAll enc Tryd.prog W 0 (fun _ => true) true Tryd.f3.params.toList args.toList ds p := hA0
  rw [Tryd.params3] at hA hval hsz
  have hlt0 : ∀ x ∈ p, x.block < W.heap.size := fun x hx => hW'.lt x (by simp [hx])
  obtain ⟨v0, vs0, d0, ds0, p0, q0, hargs, rfl, rfl, h0, r0⟩ := trodAll_cons hA
  obtain ⟨rfl, rfl, rfl⟩ := trodAll_nil r0
  obtain rfl : args = #[v0] := by cases args; simp_all
  obtain ⟨rfl, rfl⟩ := trodVars_none hV
  obtain ⟨s, rfl, rfl, rfl, ws⟩ := open_string Tryd.underlying9 (hval 0 9 v0 rfl rfl) h0
  have rs : s.size ≤ 140737488351232 := by
    have := sized_string hsz (j := 0) rfl rfl
    simpa [reachBytes] using this
  clear hA0 hval0
  refine (walk _ _ (Nat.le_trans rs (by unfold maxLen; omega))).mono fun e W' ⟨he, hb⟩ => ⟨_, he, ?_⟩
  exact law_post laidOut (of_decide_eq_true (by kernel_rfl)) rfl rfl Tryd.underlying4 (fun ds hl => by
    match ds, hl with
    | [_], _ => rfl) hW' hb

theorem proved : Rows.DayReadsSaid :=
  OpenClaim.holds_of_wide 3 Tryd.f3 rfl rfl rfl rfl rfl rfl rfl ⟨rfl, rfl, rfl, rfl, rfl⟩ rfl rfl rfl rfl rfl (by kernel_rfl) Tryd.func3 (by kernel_rfl)
    (of_decide_eq_true (by kernel_rfl)) (by unfold Func.isWrapper; first | (rw [if_pos (by decide +kernel)]; kernel_rfl) | (rw [if_neg (by decide +kernel)]; exact ⟨rfl, rfl⟩))
    (fun os started H enc _ => lifted os started H enc)
theorem card : Rows.DayReadsCardSaid :=
  Claim7.holds_tied_plain_at .later [] [.data, .pinned] true (true, "9dad1e08f6c8d2027cebc61acc31d6ef1a689ef6c3038fbfe70cdb5ff32d60b7") false proved (fun _ h => by cases h) (by kernel_rfl) (fun _ h => by cases h) dayReads_row_tie rfl ⟨rfl, rfl⟩ (by kernel_rfl) rfl
    (fun f fn hf hfn => by
      obtain rfl : f = 3 := Option.some.inj ((show Tryd.prog.funcNamed "provost/provostlaw12.DayReads" = some 3 by kernel_rfl).symm.trans hf) |>.symm
      obtain rfl : fn = Tryd.f3 := (Option.some.inj (Tryd.func3.symm.trans hfn)).symm
      exact ⟨by kernel_rfl, fun j t ht => by
        rw [Tryd.params3] at ht
        have hm := Array.mem_of_getElem? ht
        have hall : (Tryd.f3.params.toList.all fun u => !Tryd.prog.wantsStandIn u) = true := by kernel_rfl
        rw [Tryd.params3] at hall
        exact (show Tryd.prog.wantsStandIn t = false by simpa using List.all_eq_true.1 hall t (by simpa using hm))⟩)
    (by kernel_rfl)
end Go.Proofs.YtdaadoiedaplaaaDoor.dayReads
