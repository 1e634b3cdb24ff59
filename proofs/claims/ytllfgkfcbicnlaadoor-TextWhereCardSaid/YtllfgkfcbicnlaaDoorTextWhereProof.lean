/- TextWhere: lines and columns go on from code point to code point. Conditions: none. -/
import Derived.Test.YtllfgkfcbicnlaaDoorRows
import Derived.Test.YtllfgkfcbicnlaaDoorWhereBad
import Derived.Test.YtllfgkfcbicnlaaDoorBoth
import Derived.Test.YtllfgkfcbicnlaaDoorTie
import Derived.Test.YtllfgkfcbicnlaaDoorCards
import Derived.ProofKit
import Derived.OpenShut
import Derived.LaidMore
import Derived.Lay
import Derived.SevenTiedAt
import Derived.Stop.Joined
import Derived.PinnedBridge
namespace Go.Proofs.YtllfgkfcbicnlaaDoor.textWhere
open Go.RowKit Go.Lib
theorem walk_long (s : ByteArray) (a : Int) (w : World) (hs : 3000 < s.size) (hT : Tabs w) :
    Calls Tryd.prog 4 #[.string s, .int .i64 a] w fun e w' => e = .returned (.bool true) ∧ Below w.heap.size w w' := by
  have hm : (3000 : Int) < s.size := by omega
  go_enter Tryd.func4, Tryd.ntmps4
  go_wp2_with fail
  refine (alive_any _ hT).mono ?_
  rintro e w1 ⟨rfl, hb1⟩
  go_wp2
  go_ret
  exact ⟨rfl, hb1⟩
set_option maxHeartbeats 1000000 in
theorem walk_err (s : ByteArray) (a : Int) (w : World) (hs : s.size ≤ 3000) (hT : Tabs w) (c : Nat) (h0 : c ≠ 0)
    (hw : ∀ W, Tabs W → Calls Tryd.prog 13 #[.string s, .int .i64 a] W fun e w' => e = .returned (.tuple #[.int .i64 0, .int .i64 0, .int .i64 c]) ∧ Below W.heap.size W w') :
    Calls Tryd.prog 4 #[.string s, .int .i64 a] w fun e w' => e = .returned (.bool true) ∧ Below w.heap.size w w' := by
  have hm : (s.size : Int) ≤ 3000 := by omega
  have hne : ((c : Int) == 0) = false := by rw [beq_eq_false_iff_ne]; omega
  have hne2 : ((c : Int) != 0) = true := by rw [bne, hne]; rfl
  have hn := next_any s a
  obtain ⟨⟨p, n, f⟩, hv⟩ : ∃ v, nextV s a = v := ⟨_, rfl⟩
  rw [hv] at hn
  clear hv
  go_enter Tryd.func4, Tryd.ntmps4
  go_wp2_with fail
  refine (alive_any _ hT).mono ?_
  rintro e w1 ⟨rfl, hb1⟩
  have hT1 := hT.below hb1
  go_wp2_with fail
  refine (hw _ hT1).mono ?_
  rintro e w2 ⟨rfl, hb2⟩
  have hT2 := hT1.below hb2
  go_wp2_with fail
  refine (hn _ hT2).mono ?_
  rintro e w3 ⟨rfl, hb3⟩
  go_wp2
  go_ret
  have h3 := hb1.trans (hb2.mono hb1.size)
  exact ⟨rfl, h3.trans (hb3.mono h3.size)⟩
set_option maxHeartbeats 1000000 in
theorem walk_end (s : ByteArray) (w : World) (hs : s.size ≤ 3000) (hT : Tabs w) (l c : Nat)
    (hw : ∀ W, Tabs W → Calls Tryd.prog 13 #[.string s, .int .i64 (s.size : Nat)] W fun e w' => e = .returned (.tuple #[.int .i64 l, .int .i64 c, .int .i64 0]) ∧ Below W.heap.size W w') :
    Calls Tryd.prog 4 #[.string s, .int .i64 (s.size : Nat)] w fun e w' => e = .returned (.bool true) ∧ Below w.heap.size w w' := by
  have hm : (s.size : Int) ≤ 3000 := by omega
  have hn := next_any s (s.size : Nat)
  rw [show nextV s (s.size : Nat) = (0, 0, 2) by unfold nextV; rw [if_pos (by omega)]] at hn
  go_enter Tryd.func4, Tryd.ntmps4
  go_wp2_with fail
  refine (alive_any _ hT).mono ?_
  rintro e w1 ⟨rfl, hb1⟩
  have hT1 := hT.below hb1
  go_wp2_with fail
  refine (hw _ hT1).mono ?_
  rintro e w2 ⟨rfl, hb2⟩
  have hT2 := hT1.below hb2
  go_wp2_with fail
  refine (hn _ hT2).mono ?_
  rintro e w3 ⟨rfl, hb3⟩
  go_wp2
  go_ret
  have h3 := hb1.trans (hb2.mono hb1.size)
  exact ⟨rfl, h3.trans (hb3.mono h3.size)⟩
set_option maxHeartbeats 8000000 in
theorem walk_mid (s : ByteArray) (a d p l c l2 c2 : Nat) (w : World) (hs : s.size ≤ 3000) (hT : Tabs w) (hd : a + d ≤ s.size) (hl : 1 ≤ l) (hc : 1 ≤ c) (hl2 : l ≤ 3001) (hc2 : c ≤ 3001)
    (hn : ∀ W, Tabs W → Calls Tryd.prog 9 #[.string s, .int .i64 a] W fun e w' => e = .returned (.tuple #[.int .i64 p, .int .i64 d, .int .i64 0]) ∧ Below W.heap.size W w')
    (hw : ∀ W, Tabs W → Calls Tryd.prog 13 #[.string s, .int .i64 a] W fun e w' => e = .returned (.tuple #[.int .i64 l, .int .i64 c, .int .i64 0]) ∧ Below W.heap.size W w')
    (hw2 : ∀ W, Tabs W → Calls Tryd.prog 13 #[.string s, .int .i64 ((a : Int) + d)] W fun e w' => e = .returned (.tuple #[.int .i64 l2, .int .i64 c2, .int .i64 0]) ∧ Below W.heap.size W w')
    (hlc : (l2, c2) = if endsB s p (a + d) = true then (l + 1, 1) else (l, c + 1)) :
    Calls Tryd.prog 4 #[.string s, .int .i64 a] w fun e w' => e = .returned (.bool true) ∧ Below w.heap.size w w' := by
  have hm : (s.size : Int) ≤ 3000 := by omega
  obtain ⟨b10, h10⟩ : ∃ b, ((p : Int) == 10) = b := ⟨_, rfl⟩
  obtain ⟨b13, h13⟩ : ∃ b, ((p : Int) == 13) = b := ⟨_, rfl⟩
  have k10 : (p == 10) = b10 := by rw [← h10, Bool.eq_iff_iff]; simp; omega
  have k13 : (p == 13) = b13 := by rw [← h13, Bool.eq_iff_iff]; simp; omega
  by_cases h1 : a + d < s.size
  · have g1 : (a : Int) + d < s.size := by omega
    obtain ⟨lf, hlf⟩ : ∃ b, ((s[a + d].toNat : Int) == 10) = b := ⟨_, rfl⟩
    have klf : (s[a + d].toNat != 10) = !lf := by rw [← hlf, Bool.eq_iff_iff]; simp; omega
    have hE : endsB s p (a + d) = (b10 || (b13 && !lf)) := by
      have : (a + d == s.size) = false := by simp; omega
      unfold endsB
      rw [this, k10, k13, byt_get s _ h1, klf]
      simp
    rw [hE] at hlc
    clear hE k10 k13 klf
    have HL := Lib.hid hlc
    clear hlc
    go_enter Tryd.func4, Tryd.ntmps4
    go_wp2_with fail
    refine (alive_any _ hT).mono ?_
    rintro e w1 ⟨rfl, hb1⟩
    have hT1 := hT.below hb1
    go_wp2_with fail
    refine (hw _ hT1).mono ?_
    rintro e w2 ⟨rfl, hb2⟩
    have hT2 := hT1.below hb2
    go_wp2_with fail
    refine (hn _ hT2).mono ?_
    rintro e w3 ⟨rfl, hb3⟩
    have hT3 := hT2.below hb3
    go_wp2_with fail
    refine (hw2 _ hT3).mono ?_
    rintro e w4 ⟨rfl, hb4⟩
    have h3 := hb1.trans (hb2.mono hb1.size)
    have h4 := h3.trans (hb3.mono h3.size)
    have h5 := h4.trans (hb4.mono h4.size)
    clear hn hw hw2 hb1 hb2 hb3 hb4 h3 h4 hT1 hT2 hT3 hT
    cases b10 <;> cases b13 <;> cases lf
    all_goals
      have hlc := HL.out
      simp only [Bool.not_true, Bool.not_false, Bool.and_true, Bool.and_false, Bool.or_true, Bool.or_false, Bool.false_eq_true, if_true, if_false, Prod.mk.injEq] at hlc
      obtain ⟨rfl, rfl⟩ := hlc
      clear HL
      go_wp2
      go_ret
      exact ⟨ret_bool (by simp <;> omega), h5⟩
  · have h1' : a + d = s.size := by omega
    have g1 : ¬ (a : Int) + d < s.size := by omega
    have hE : endsB s p (a + d) = (b10 || b13) := by
      have : (a + d == s.size) = true := by simp; omega
      unfold endsB
      rw [this, k10, k13]
      simp
    rw [hE] at hlc
    clear hE k10 k13 h1'
    have HL := Lib.hid hlc
    clear hlc
    go_enter Tryd.func4, Tryd.ntmps4
    go_wp2_with fail
    refine (alive_any _ hT).mono ?_
    rintro e w1 ⟨rfl, hb1⟩
    have hT1 := hT.below hb1
    go_wp2_with fail
    refine (hw _ hT1).mono ?_
    rintro e w2 ⟨rfl, hb2⟩
    have hT2 := hT1.below hb2
    go_wp2_with fail
    refine (hn _ hT2).mono ?_
    rintro e w3 ⟨rfl, hb3⟩
    have hT3 := hT2.below hb3
    go_wp2_with fail
    refine (hw2 _ hT3).mono ?_
    rintro e w4 ⟨rfl, hb4⟩
    have h3 := hb1.trans (hb2.mono hb1.size)
    have h4 := h3.trans (hb3.mono h3.size)
    have h5 := h4.trans (hb4.mono h4.size)
    clear hn hw hw2 hb1 hb2 hb3 hb4 h3 h4 hT1 hT2 hT3 hT
    cases b10 <;> cases b13
    all_goals
      have hlc := HL.out
      simp only [Bool.or_true, Bool.or_false, Bool.false_eq_true, if_true, if_false, Prod.mk.injEq] at hlc
      obtain ⟨rfl, rfl⟩ := hlc
      clear HL
      go_wp2
      go_ret
      exact ⟨ret_bool (by simp <;> omega), h5⟩
theorem walk (s : ByteArray) (a : Int) (w : World) (hs : s.size ≤ maxLen) (hT : Tabs w) :
    Calls Tryd.prog 4 #[.string s, .int .i64 a] w fun e w' => e = .returned (.bool true) ∧ Below w.heap.size w w' := by
  by_cases hz : s.size ≤ 3000
  · by_cases hc : checkV s = 0
    · have hv : Lib.validD s.data.toList = true := by
        unfold checkV at hc
        rw [if_neg (by omega)] at hc
        by_cases h : Lib.validD s.data.toList = true
        · exact h
        · rw [if_neg h] at hc; cases hc
      obtain ⟨m, P, X, hch⟩ := chain_valid hv
      by_cases h0 : a < 0 ∨ (s.size : Int) < a
      · exact walk_err s a w hz hT 2 (by omega) fun W hW => where_out s a W hs hW hc (by rcases h0 with h | h; exact .inl h; exact .inr (.inl h))
      · obtain ⟨k, rfl⟩ : ∃ k : Nat, a = (k : Int) := ⟨a.toNat, by omega⟩
        rcases hch.place (a := k) (by omega) with ⟨j, hj, rfl⟩ | ⟨h1, h2⟩
        · by_cases hjm : j = m
          · subst hjm
            have := walk_end s w hz hT (lcs s P X j).1 (lcs s P X j).2 fun W hW => by
              have := where_at s hch (by omega) (Nat.le_refl _) W hW
              rwa [hch.2.1] at this
            rwa [hch.2.1]
          · have hlt : j < m := by omega
            obtain ⟨g1, g2⟩ := hch.2.2 j hlt
            have g3 := g2.end_le
            obtain ⟨d, hd⟩ : ∃ d, P (j + 1) = P j + d := ⟨P (j + 1) - P j, by omega⟩
            have hd2 : P (j + 1) - P j = d := by omega
            rw [hd2] at g2 g3
            have hbd := lcs_bd s P X j
            have hge := hch.ge (i := j) (by omega)
            refine walk_mid s (P j) d (X j) (lcs s P X j).1 (lcs s P X j).2 (lcs s P X (j + 1)).1 (lcs s P X (j + 1)).2 w hz hT (by omega) hbd.1 hbd.2.1 (by omega) (by omega)
              (fun W hW => ?_) (fun W hW => where_at s hch (by omega) (by omega) W hW) (fun W hW => ?_) ?_
            · have := next_any s (P j : Nat) W hW
              rw [next_of_at g2] at this
              exact this
            · have := where_at s hch (by omega) (k := j + 1) (by omega) W hW
              rw [hd, Int.natCast_add] at this
              exact this
            · rw [← hd, lcs]
        · exact walk_err s k w hz hT 2 (by omega) fun W hW => where_out s k W hs hW hc (.inr (.inr ⟨k, rfl, h1, h2⟩))
    · exact walk_err s a w hz hT (checkV s) hc fun W hW => where_check s a W hs hW _ rfl hc
  · exact walk_long s a w (by omega) hT
open Go.ChangeShapes Go.WideShapes Go.ChangeAt
open Go.ChangeMaps (open_string shut_string)
theorem own : ownKnob Tryd.prog.godebug = none := by kernel_rfl
theorem laidOut : laidOutB Tryd.prog = true := by kernel_rfl
def laidL : List (String × DataW Unit) := [("unicode/utf8.acceptRanges", Rows.laid_unicode_utf8_acceptRanges), ("unicode/utf8.first", Rows.laid_unicode_utf8_first)]
theorem first_eq : Rows.laid_unicode_utf8_first = Go.Lib.firstData := Pinned.utf8First_eq
theorem tabs_of {W : World} (h : laidMetH Tryd.prog laidL W) : Tabs W := by
  rw [MakeChecks.laidMetH_plain _ _ _ (by kernel_rfl)] at h
  have h1 : Go.Lib.VarReads Tryd.prog W "unicode/utf8.acceptRanges" Rows.laid_unicode_utf8_acceptRanges := Lib.laidMet.reads h (.head _)
  have h2 : Go.Lib.VarReads Tryd.prog W "unicode/utf8.first" Rows.laid_unicode_utf8_first := Lib.laidMet.reads h (.tail _ (.head _))
  rw [first_eq] at h2
  exact utf8Tabs_of_reads (ρ := Tryd.lays260_ren) { Tryd.lays260 with } ⟨by kernel_rfl, by kernel_rfl, by kernel_rfl, by kernel_rfl, by kernel_rfl, by kernel_rfl, by kernel_rfl⟩ h2 h1
set_option maxRecDepth 100000 in
theorem lifted (os : Os) (started : os.Started) (H : Type) (enc : TypeId × Value → H) :
    ReturnsInHanded {} Tryd.checked os 4 .any (fun w args => (Rows.textWhereSpec.pre enc Tryd.prog Tryd.f4 Rows.textWhereRow.domain false w args ∧ laidMetH Tryd.prog laidL w) ∧ sizedMet enc Tryd.prog Tryd.f4 (OpenSpec.ofChange Rows.textWhereSpec) false w args)
      (Rows.textWhereSpec.post enc Tryd.prog Tryd.f4 false true false false) := by
  refine returnsInHanded_of_change_and (C := Tryd.checked) (X := fun w _ => laidMetH Tryd.prog laidL w) (fun _ _ _ hh h => h.of_heap hh) own started (by kernel_rfl) Tryd.func4
    (ChangeSpec.witness_shaped (enc := enc) (C := Tryd.checked) (os := os) (X := fun w _ => laidMetH Tryd.prog laidL w) false (World.laidAll Tryd.prog os laidL) #[.string ⟨#[]⟩, .int .i64 0] 8 (World.laidAll_os _ _ _)
      (World.shaped_of_ZipB (by kernel_rfl) (by kernel_rfl)) (by kernel_rfl) (by kernel_rfl) (by kernel_rfl)
      (by rw [MakeChecks.laidMetH_plain _ _ _ (by kernel_rfl)]; exact laidMet_laidAll _ (by kernel_rfl) (by kernel_rfl))) ?_
  intro W base args ds gs before hval0 hW _ hsz0 hL _
  have hT : Tabs W := tabs_of hL
  have hsz : (DataW.weightsEach Tryd.prog (Tryd.f4.params.toList ++ Rows.textWhereSpec.plain.varTypes Tryd.prog) (ds ++ gs)).all (· ≤ reachBytes) = true := hsz0
  have hval : ∀ (j : Nat) t v, Tryd.f4.params[j]? = some t → args[j]? = some v → Value.okWide Tryd.prog W .any base t v := hval0
  have hW' := hW
  obtain ⟨p, q, hA0, hV, rfl, hfz, hnd⟩ := hW
  have hA : DataW.TrodAll enc Tryd.prog W 0 (fun _ => true) true Tryd.f4.params.toList args.toList ds p := hA0
  rw [Tryd.params4] at hA hval hsz
  have hlt0 : ∀ x ∈ p, x.block < W.heap.size := fun x hx => hW'.lt x (by simp [hx])
  obtain ⟨v0, vs0, d0, ds0, p0, q0, hargs, rfl, rfl, h0, r0⟩ := trodAll_cons hA
  obtain ⟨v1, vs1, d1, ds1, p1, q1, rfl, rfl, rfl, h1, r1⟩ := trodAll_cons r0
  obtain ⟨rfl, rfl, rfl⟩ := trodAll_nil r1
  obtain rfl : args = #[v0, v1] := by cases args; simp_all
  obtain ⟨rfl, rfl⟩ := trodVars_none hV
  obtain ⟨s, rfl, rfl, rfl, ws⟩ := open_string Tryd.underlying9 (hval 0 9 v0 rfl rfl) h0
  have rs : s.size ≤ 140737488351232 := by
    have := sized_string hsz (j := 0) rfl rfl
    simpa [reachBytes] using this
  obtain ⟨a, rfl, rfl, rfl, wa⟩ := open_int Tryd.underlying3 (hval 1 3 v1 rfl rfl) h1
  clear hA0 hval0
  refine (walk s a W ws hT).mono fun e W' ⟨he, hb⟩ => ⟨_, he, ?_⟩
  exact law_post laidOut (of_decide_eq_true (by kernel_rfl)) rfl rfl Tryd.underlying4 (fun ds hl => by
    match ds, hl with
    | [_, _], _ => rfl) hW' hb

theorem proved : Rows.TextWhereSaid :=
  OpenClaim.holds_of_wide 4 Tryd.f4 rfl rfl rfl rfl rfl rfl rfl ⟨rfl, rfl, rfl, rfl, rfl⟩ rfl rfl rfl rfl rfl (by kernel_rfl) Tryd.func4 (by kernel_rfl)
    (of_decide_eq_true (by kernel_rfl)) (by unfold Func.isWrapper; first | (rw [if_pos (by decide +kernel)]; kernel_rfl) | (rw [if_neg (by decide +kernel)]; exact ⟨rfl, rfl⟩))
    (fun os started H enc _ => lifted os started H enc)
theorem card : Rows.TextWhereCardSaid :=
  Claim7.holds_tied_plain_at .later [] [.data, .pinned] true (true, "43a461dede2be16f7040214212f4b4820fa7ab4f6fa1eab68a6d3d071a59e634") false proved (fun _ h => by cases h) (by kernel_rfl) (fun _ h => by cases h) textWhere_row_tie rfl ⟨rfl, rfl⟩ (by kernel_rfl) rfl
    (fun f fn hf hfn => by
      obtain rfl : f = 4 := Option.some.inj ((show Tryd.prog.funcNamed "provost/provostlaw01.TextWhere" = some 4 by kernel_rfl).symm.trans hf) |>.symm
      obtain rfl : fn = Tryd.f4 := (Option.some.inj (Tryd.func4.symm.trans hfn)).symm
      exact ⟨by kernel_rfl, fun j t ht => by
        rw [Tryd.params4] at ht
        have hm := Array.mem_of_getElem? ht
        have hall : (Tryd.f4.params.toList.all fun u => !Tryd.prog.wantsStandIn u) = true := by kernel_rfl
        rw [Tryd.params4] at hall
        exact (show Tryd.prog.wantsStandIn t = false by simpa using List.all_eq_true.1 hall t (by simpa using hm))⟩)
    (by kernel_rfl)
end Go.Proofs.YtllfgkfcbicnlaaDoor.textWhere
