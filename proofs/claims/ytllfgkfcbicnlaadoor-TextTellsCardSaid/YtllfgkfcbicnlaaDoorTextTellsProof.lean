/- TextTells: code points, lines, columns, counts are as is said. Conditions: none. -/
import Derived.Test.YtllfgkfcbicnlaaDoorRows
import Derived.Test.YtllfgkfcbicnlaaDoorRefWhere
import Derived.Test.YtllfgkfcbicnlaaDoorTie
import Derived.Test.YtllfgkfcbicnlaaDoorCards
import Derived.ProofKit
import Derived.OpenShut
import Derived.LaidMore
import Derived.Lay
import Derived.SevenTiedAt
import Derived.Stop.Joined
import Derived.PinnedBridge
namespace Go.Proofs.YtllfgkfcbicnlaaDoor.textTells
open Go.RowKit Go.Lib
theorem both_where (s : ByteArray) (a : Int) (hs : s.size ≤ 17000) : ∃ v : Nat × Nat × Nat,
    (∀ W, Tabs W → Calls Tryd.prog 13 #[.string s, .int .i64 a] W fun e w' => e = .returned (.tuple #[.int .i64 v.1, .int .i64 v.2.1, .int .i64 v.2.2]) ∧ Below W.heap.size W w') ∧
    (∀ W, Calls Tryd.prog 16 #[.string s, .int .i64 a] W fun e w' => e = .returned (.tuple #[.int .i64 v.1, .int .i64 v.2.1, .int .i64 v.2.2]) ∧ Below W.heap.size W w') := by
  have hml : s.size ≤ maxLen := by unfold maxLen; omega
  by_cases hc : checkV s = 0
  · have hz : s.size ≤ 16384 := by
      rcases Nat.lt_or_ge 16384 s.size with h | h
      · unfold checkV at hc; rw [if_pos h] at hc; cases hc
      · exact h
    have hv : Lib.validD s.data.toList = true := by
      unfold checkV at hc
      rw [if_neg (by omega)] at hc
      by_cases h : Lib.validD s.data.toList = true
      · exact h
      · rw [if_neg h] at hc; cases hc
    obtain ⟨m, P, X, hch⟩ := chain_valid hv
    have hout : (a < 0 ∨ (s.size : Int) < a ∨ ∃ k : Nat, a = k ∧ k < s.size ∧ Lib.runeStart (byt s k : Nat) = false) → whereV s P X m a (0, 0, 2) := by
      intro h
      refine .inr ⟨fun k hk e => ?_, rfl⟩
      have h1 := hch.mono hk (Nat.le_refl m)
      rw [hch.2.1] at h1
      rcases h with h | h | ⟨k', e', h2, h3⟩
      · omega
      · omega
      · obtain rfl : k' = P k := by omega
        by_cases g : k = m
        · subst g; rw [hch.2.1] at h2; omega
        · have := start_at (hch.2.2 k (by omega)).2
          rw [this] at h3
          cases h3
    by_cases h0 : a < 0 ∨ (s.size : Int) < a
    · have h1 : a < 0 ∨ (s.size : Int) < a ∨ ∃ k : Nat, a = k ∧ k < s.size ∧ Lib.runeStart (byt s k : Nat) = false := by
        rcases h0 with h | h
        · exact .inl h
        · exact .inr (.inl h)
      exact ⟨(0, 0, 2), fun W hW => where_out s a W hml hW hc h1, fun W => refwhere_any s hch hz a W _ (hout h1)⟩
    · obtain ⟨k, rfl⟩ : ∃ k : Nat, a = (k : Int) := ⟨a.toNat, by omega⟩
      rcases hch.place (a := k) (by omega) with ⟨j, hj, rfl⟩ | ⟨h1, h2⟩
      · exact ⟨((lcs s P X j).1, (lcs s P X j).2, 0), fun W hW => where_at s hch hz hj W hW, fun W => refwhere_any s hch hz _ W _ (.inl ⟨j, hj, rfl, rfl⟩)⟩
      · have h3 : (k : Int) < 0 ∨ (s.size : Int) < k ∨ ∃ k' : Nat, (k : Int) = k' ∧ k' < s.size ∧ Lib.runeStart (byt s k' : Nat) = false := .inr (.inr ⟨k, rfl, h1, h2⟩)
        exact ⟨(0, 0, 2), fun W hW => where_out s k W hml hW hc h3, fun W => refwhere_any s hch hz _ W _ (hout h3)⟩
  · exact ⟨(0, 0, checkV s), fun W hW => where_check s a W hml hW _ rfl hc, fun W => refwhere_check s a W hs _ rfl hc⟩
theorem walk_long (s : ByteArray) (a : Int) (w : World) (hs : 3000 < s.size ∧ s.size ≤ 16384 ∨ 17000 < s.size) :
    Calls Tryd.prog 5 #[.string s, .int .i64 a] w fun e w' => e = .returned (.bool true) ∧ Below w.heap.size w w' := by
  rcases hs with ⟨h1, h2⟩ | h
  · have g1 : (3000 : Int) < s.size := by omega
    have g2 : (s.size : Int) ≤ 16384 := by omega
    go_enter Tryd.func5, Tryd.ntmps5
    go_wp2
    go_ret
    exact ⟨rfl, Below.refl _ _⟩
  · have g1 : (3000 : Int) < s.size := by omega
    have g2 : ¬ (s.size : Int) ≤ 16384 := by omega
    have g3 : (17000 : Int) < s.size := by omega
    go_enter Tryd.func5, Tryd.ntmps5
    go_wp2
    go_ret
    exact ⟨rfl, Below.refl _ _⟩
set_option maxHeartbeats 4000000 in
theorem walk_in (s : ByteArray) (a : Int) (w : World) (hs : s.size ≤ 3000 ∨ 16384 < s.size) (hs2 : s.size ≤ 17000) (hT : Tabs w) :
    Calls Tryd.prog 5 #[.string s, .int .i64 a] w fun e w' => e = .returned (.bool true) ∧ Below w.heap.size w w' := by
  have hml : s.size ≤ maxLen := by unfold maxLen; omega
  have k1 := next_any s a
  have k2 := fun W => refnext_any s a W hs2
  have k3 := fun W (h : Tabs W) => back_any s a W hml h
  have k4 := fun W => refback_any s a W hs2
  obtain ⟨⟨l, c, f⟩, k5, k6⟩ := both_where s a hs2
  have k7 := fun W (h : Tabs W) => count_any s W hml h
  have k8 := fun W => refcount_any s W hs2
  have k9 := fun W (h : Tabs W) => check_any s W hml h
  have k10 := fun W => refcheck_any s W hs2
  obtain ⟨⟨p1, p2, p3⟩, h1⟩ : ∃ v, nextV s a = v := ⟨_, rfl⟩
  obtain ⟨⟨q1, q2, q3⟩, h2⟩ : ∃ v, backV s a = v := ⟨_, rfl⟩
  obtain ⟨cn, h3⟩ : ∃ v, countV s = v := ⟨_, rfl⟩
  obtain ⟨ck, h4⟩ : ∃ v, checkV s = v := ⟨_, rfl⟩
  rw [h1] at k1 k2
  rw [h2] at k3 k4
  rw [h3, h4] at k7 k8
  rw [h4] at k9 k10
  clear h1 h2 h3 h4 hml
  have hg : ¬ (3000 : Int) < s.size ∨ ((3000 : Int) < s.size ∧ ¬ (s.size : Int) ≤ 16384) := by omega
  have hg2 : ¬ (17000 : Int) < s.size := by omega
  clear hs hs2
  rcases hg with hg | ⟨hg, hg3⟩
  all_goals
    go_enter Tryd.func5, Tryd.ntmps5
    go_wp2_with fail
    refine (k1 _ hT).mono ?_
    rintro e w1 ⟨rfl, hb1⟩
    have hT1 := hT.below hb1
    clear k1 hT
    go_wp2_with fail
    refine (k2 _).mono ?_
    rintro e w2 ⟨rfl, hb2⟩
    have hT2 := hT1.below hb2
    have hB2 := hb1.trans (hb2.mono hb1.size)
    clear k2 hT1 hb1 hb2
    go_wp2_with fail
    refine (k3 _ hT2).mono ?_
    rintro e w3 ⟨rfl, hb3⟩
    have hT3 := hT2.below hb3
    have hB3 := hB2.trans (hb3.mono hB2.size)
    clear k3 hT2 hb3 hB2
    go_wp2_with fail
    refine (k4 _).mono ?_
    rintro e w4 ⟨rfl, hb4⟩
    have hT4 := hT3.below hb4
    have hB4 := hB3.trans (hb4.mono hB3.size)
    clear k4 hT3 hb4 hB3
    go_wp2_with fail
    refine (k5 _ hT4).mono ?_
    rintro e w5 ⟨rfl, hb5⟩
    have hT5 := hT4.below hb5
    have hB5 := hB4.trans (hb5.mono hB4.size)
    clear k5 hT4 hb5 hB4
    go_wp2_with fail
    refine (k6 _).mono ?_
    rintro e w6 ⟨rfl, hb6⟩
    have hT6 := hT5.below hb6
    have hB6 := hB5.trans (hb6.mono hB5.size)
    clear k6 hT5 hb6 hB5
    go_wp2_with fail
    refine (k7 _ hT6).mono ?_
    rintro e w7 ⟨rfl, hb7⟩
    have hT7 := hT6.below hb7
    have hB7 := hB6.trans (hb7.mono hB6.size)
    clear k7 hT6 hb7 hB6
    go_wp2_with fail
    refine (k8 _).mono ?_
    rintro e w8 ⟨rfl, hb8⟩
    have hT8 := hT7.below hb8
    have hB8 := hB7.trans (hb8.mono hB7.size)
    clear k8 hT7 hb8 hB7
    go_wp2_with fail
    refine (k9 _ hT8).mono ?_
    rintro e w9 ⟨rfl, hb9⟩
    have hB9 := hB8.trans (hb9.mono hB8.size)
    clear k9 hT8 hb9 hB8
    go_wp2_with fail
    refine (k10 _).mono ?_
    rintro e w10 ⟨rfl, hb10⟩
    have hB10 := hB9.trans (hb10.mono hB9.size)
    clear k10 hb10 hB9
    go_wp2
    go_ret
    exact ⟨by simp, hB10⟩
theorem walk (s : ByteArray) (a : Int) (w : World) (hT : Tabs w) :
    Calls Tryd.prog 5 #[.string s, .int .i64 a] w fun e w' => e = .returned (.bool true) ∧ Below w.heap.size w w' := by
  by_cases h : 3000 < s.size ∧ s.size ≤ 16384 ∨ 17000 < s.size
  · exact walk_long s a w h
  · exact walk_in s a w (by omega) (by omega) hT
open Go.ChangeShapes Go.WideShapes Go.ChangeAt
open Go.ChangeMaps (open_string shut_string)
theorem own : ownKnob Tryd.prog.godebug = none := by kernel_rfl
theorem laidOut : laidOutB Tryd.prog = true := by kernel_rfl
def laidL : List (String × DataW Unit) := [("unicode/utf8.acceptRanges", Rows.laid_unicode_utf8_acceptRanges), ("unicode/utf8.first", Rows.laid_unicode_utf8_first)]
theorem first_eq : Rows.laid_unicode_utf8_first = Go.Lib.firstData := Pinned.utf8First_eq
theorem tabs_of {W : World} (h : laidMetH Tryd.prog laidL W) : Tabs W := by
  rw [MakeChecks.laidMetH_plain _ _ _ (by kernel_rfl)] at h
  have h1 : Go.Lib.VarReads Tryd.prog W "unicode/utf8.acceptRanges" Rows.laid_unicode_utf8_acceptRanges := Lib.laidMet.reads h (.head _)
  have h2 : Go.Lib.VarReads Tryd.prog W "unicode/utf8.first" Rows.laid_unicode_utf8_first := Lib.laidMet.reads h (.tail _ (.head _))
  rw [first_eq] at h2
  exact utf8Tabs_of_reads (ρ := Tryd.lays260_ren) { Tryd.lays260 with } ⟨by kernel_rfl, by kernel_rfl, by kernel_rfl, by kernel_rfl, by kernel_rfl, by kernel_rfl, by kernel_rfl⟩ h2 h1
set_option maxRecDepth 100000 in
theorem lifted (os : Os) (started : os.Started) (H : Type) (enc : TypeId × Value → H) :
    ReturnsInHanded {} Tryd.checked os 5 .any (fun w args => (Rows.textTellsSpec.pre enc Tryd.prog Tryd.f5 Rows.textTellsRow.domain false w args ∧ laidMetH Tryd.prog laidL w) ∧ sizedMet enc Tryd.prog Tryd.f5 (OpenSpec.ofChange Rows.textTellsSpec) false w args)
      (Rows.textTellsSpec.post enc Tryd.prog Tryd.f5 false true false false) := by
  refine returnsInHanded_of_change_and (C := Tryd.checked) (X := fun w _ => laidMetH Tryd.prog laidL w) (fun _ _ _ hh h => h.of_heap hh) own started (by kernel_rfl) Tryd.func5
    (ChangeSpec.witness_shaped (enc := enc) (C := Tryd.checked) (os := os) (X := fun w _ => laidMetH Tryd.prog laidL w) false (World.laidAll Tryd.prog os laidL) #[.string ⟨#[]⟩, .int .i64 0] 8 (World.laidAll_os _ _ _)
      (World.shaped_of_ZipB (by kernel_rfl) (by kernel_rfl)) (by kernel_rfl) (by kernel_rfl) (by kernel_rfl)
      (by rw [MakeChecks.laidMetH_plain _ _ _ (by kernel_rfl)]; exact laidMet_laidAll _ (by kernel_rfl) (by kernel_rfl))) ?_
  intro W base args ds gs before hval0 hW _ hsz0 hL _
  have hT : Tabs W := tabs_of hL
  have hsz : (DataW.weightsEach Tryd.prog (Tryd.f5.params.toList ++ Rows.textTellsSpec.plain.varTypes Tryd.prog) (ds ++ gs)).all (· ≤ reachBytes) = true := hsz0
  have hval : ∀ (j : Nat) t v, Tryd.f5.params[j]? = some t → args[j]? = some v → Value.okWide Tryd.prog W .any base t v := hval0
  have hW' := hW
  obtain ⟨p, q, hA0, hV, rfl, hfz, hnd⟩ := hW
  have hA : DataW.TrodAll enc Tryd.prog W 0 (fun _ => true) true Tryd.f5.params.toList args.toList ds p := hA0
  rw [Tryd.params5] at hA hval hsz
  have hlt0 : ∀ x ∈ p, x.block < W.heap.size := fun x hx => hW'.lt x (by simp [hx])
  obtain ⟨v0, vs0, d0, ds0, p0, q0, hargs, rfl, rfl, h0, r0⟩ := trodAll_cons hA
  obtain ⟨v1, vs1, d1, ds1, p1, q1, rfl, rfl, rfl, h1, r1⟩ := trodAll_cons r0
  obtain ⟨rfl, rfl, rfl⟩ := trodAll_nil r1
  obtain rfl : args = #[v0, v1] := by cases args; simp_all
  obtain ⟨rfl, rfl⟩ := trodVars_none hV
  obtain ⟨s, rfl, rfl, rfl, ws⟩ := open_string Tryd.underlying9 (hval 0 9 v0 rfl rfl) h0
  have rs : s.size ≤ 140737488351232 := by
    have := sized_string hsz (j := 0) rfl rfl
    simpa [reachBytes] using this
  obtain ⟨a, rfl, rfl, rfl, wa⟩ := open_int Tryd.underlying3 (hval 1 3 v1 rfl rfl) h1
  clear hA0 hval0
  refine (walk s a W hT).mono fun e W' ⟨he, hb⟩ => ⟨_, he, ?_⟩
  exact law_post laidOut (of_decide_eq_true (by kernel_rfl)) rfl rfl Tryd.underlying4 (fun ds hl => by
    match ds, hl with
    | [_, _], _ => rfl) hW' hb

theorem proved : Rows.TextTellsSaid :=
  OpenClaim.holds_of_wide 5 Tryd.f5 rfl rfl rfl rfl rfl rfl rfl ⟨rfl, rfl, rfl, rfl, rfl⟩ rfl rfl rfl rfl rfl (by kernel_rfl) Tryd.func5 (by kernel_rfl)
    (of_decide_eq_true (by kernel_rfl)) (by unfold Func.isWrapper; first | (rw [if_pos (by decide +kernel)]; kernel_rfl) | (rw [if_neg (by decide +kernel)]; exact ⟨rfl, rfl⟩))
    (fun os started H enc _ => lifted os started H enc)
theorem card : Rows.TextTellsCardSaid :=
  Claim7.holds_tied_plain_at .later [] [.data, .pinned] true (true, "43a461dede2be16f7040214212f4b4820fa7ab4f6fa1eab68a6d3d071a59e634") false proved (fun _ h => by cases h) (by kernel_rfl) (fun _ h => by cases h) textTells_row_tie rfl ⟨rfl, rfl⟩ (by kernel_rfl) rfl
    (fun f fn hf hfn => by
      obtain rfl : f = 5 := Option.some.inj ((show Tryd.prog.funcNamed "provost/provostlaw01.TextTells" = some 5 by kernel_rfl).symm.trans hf) |>.symm
      obtain rfl : fn = Tryd.f5 := (Option.some.inj (Tryd.func5.symm.trans hfn)).symm
      exact ⟨by kernel_rfl, fun j t ht => by
        rw [Tryd.params5] at ht
        have hm := Array.mem_of_getElem? ht
        have hall : (Tryd.f5.params.toList.all fun u => !Tryd.prog.wantsStandIn u) = true := by kernel_rfl
        rw [Tryd.params5] at hall
        exact (show Tryd.prog.wantsStandIn t = false by simpa using List.all_eq_true.1 hall t (by simpa using hm))⟩)
    (by kernel_rfl)
end Go.Proofs.YtllfgkfcbicnlaaDoor.textTells
