/- TextBoth: each byte that Next takes in, Back takes in. Conditions: none. -/
import Derived.Test.YtllfgkfcbicnlaaDoorRows
import Derived.Test.YtllfgkfcbicnlaaDoorNext
import Derived.Test.YtllfgkfcbicnlaaDoorTie
import Derived.Test.YtllfgkfcbicnlaaDoorCards
import Derived.ProofKit
import Derived.OpenShut
import Derived.LaidMore
import Derived.Lay
import Derived.SevenTiedAt
import Derived.Stop.Joined
import Derived.PinnedBridge
namespace Go.Proofs.YtllfgkfcbicnlaaDoor.textBoth
open Go.RowKit
theorem told_ok {d : Nat × Nat} {p n : Nat} (h : told d = (p, n, 0)) : d = (p, n) ∧ ¬ (p = 65533 ∧ n < 3) := by
  unfold told at h
  split at h
  · simp at h
  · rename_i g
    simp only [Prod.mk.injEq] at h
    obtain ⟨rfl, rfl, _⟩ := h
    exact ⟨rfl, g⟩
theorem told_of {p n : Nat} (h : ¬ (p = 65533 ∧ n < 3)) : told (p, n) = (p, n, 0) := by
  unfold told
  rw [if_neg h]
theorem at_of_next {s : ByteArray} {a : Int} {p n : Nat} (h : nextV s a = (p, n, 0)) : 0 ≤ a ∧ a < s.size ∧ At (byt s) s.size a.toNat p n := by
  unfold nextV at h
  split at h
  · simp at h
  · obtain ⟨h1, h2⟩ := told_ok h
    refine ⟨by omega, by omega, ?_⟩
    have := at_of_dec (B := byt s) (n := s.size) (i := a.toNat) (byt_lt s) (by omega) (by rw [h1]; exact h2)
    rwa [h1] at this
theorem next_of_at {s : ByteArray} {i p n : Nat} (h : At (byt s) s.size i p n) : nextV s (i : Int) = (p, n, 0) := by
  have := h.end_le
  unfold nextV
  rw [if_neg (by omega), show (i : Int).toNat = i by omega, dec_of_at h]
  exact told_of h.not_err
theorem at_of_back {s : ByteArray} {a : Int} {p n : Nat} (h : backV s a = (p, n, 0)) : 1 ≤ a ∧ a ≤ s.size ∧ (n : Int) ≤ a ∧ At (byt s) s.size (a.toNat - n) p n := by
  unfold backV at h
  split at h
  · simp at h
  · obtain ⟨h1, h2⟩ := told_ok h
    have := at_of_decLast (B := byt s) (e := a.toNat) (byt_lt s) (by omega) (by rw [h1]; exact h2)
    rw [h1] at this
    have hl := this.end_le
    simp only at this hl
    refine ⟨by omega, by omega, by omega, ?_⟩
    rcases this with ⟨e, h⟩ | ⟨e, h⟩ | ⟨e, h⟩ | ⟨e, h⟩
    · exact .inl ⟨e, h.1, by omega, h.2.2⟩
    · exact .inr (.inl ⟨e, h.1, h.2.1, by omega, h.2.2.2⟩)
    · exact .inr (.inr (.inl ⟨e, h.1, h.2.1, h.2.2.1, by omega, h.2.2.2.2⟩))
    · exact .inr (.inr (.inr ⟨e, h.1, h.2.1, by omega, h.2.2.2⟩))
theorem back_of_at {s : ByteArray} {i p n : Nat} (h : At (byt s) s.size i p n) : backV s ((i : Int) + n) = (p, n, 0) := by
  have := h.end_le
  unfold backV
  rw [if_neg (by omega), show ((i : Int) + n).toNat = i + n by omega, decLast_of_at h rfl]
  exact told_of h.not_err
set_option maxHeartbeats 1000000 in
theorem walk (s : ByteArray) (a : Int) (w : World) (hs : s.size ≤ maxLen) (hT : Tabs w) :
    Calls Tryd.prog 3 #[.string s, .int .i64 a] w fun e w' => e = .returned (.bool true) ∧ Below w.heap.size w w' := by
  have hn := next_any s a
  have hk := back_any s a
  obtain ⟨⟨p, n, e⟩, hv⟩ : ∃ v, nextV s a = v := ⟨_, rfl⟩
  obtain ⟨⟨q, m, f⟩, hu⟩ : ∃ v, backV s a = v := ⟨_, rfl⟩
  rw [hv] at hn
  rw [hu] at hk
  have hm := hs
  unfold maxLen at hm
  have c1 : e = 0 → ∀ W, Tabs W → 0 ≤ a ∧ a + n ≤ s.size ∧ n ≤ 4 ∧ Calls Tryd.prog 11 #[.string s, .int .i64 (a + n), .int .i64 p, .int .i64 n, .int .i64 0] W fun e w' => e = .returned (.bool true) ∧ Below W.heap.size W w' := by
    rintro rfl W hW
    obtain ⟨h1, h2, h3⟩ := at_of_next hv
    have h4 := back_of_at h3
    have h5 := h3.end_le
    rw [show ((a.toNat : Nat) : Int) = a by omega] at h4
    exact ⟨h1, by omega, by omega, lback_any s _ p n 0 W hs hW h4⟩
  have c2 : f = 0 → ∀ W, Tabs W → 0 ≤ a ∧ a ≤ s.size ∧ m ≤ 4 ∧ Calls Tryd.prog 12 #[.string s, .int .i64 (a - m), .int .i64 q, .int .i64 m, .int .i64 0] W fun e w' => e = .returned (.bool true) ∧ Below W.heap.size W w' := by
    rintro rfl W hW
    obtain ⟨h1, h2, h6, h3⟩ := at_of_back hu
    have h4 := next_of_at h3
    have h5 := h3.end_le
    rw [show ((a.toNat - m : Nat) : Int) = a - m by omega] at h4
    exact ⟨by omega, h2, by omega, lnext_any s _ q m 0 W hW h4⟩
  clear hv hu
  by_cases he : e = 0
  · subst he
    replace c1 := c1 rfl
    by_cases hf : f = 0
    · subst hf
      replace c2 := c2 rfl
      go_enter Tryd.func3, Tryd.ntmps3
      go_wp2_with fail
      refine (alive_any _ hT).mono ?_
      rintro e w1 ⟨rfl, hb1⟩
      have hT1 := hT.below hb1
      go_wp2_with fail
      refine (hn _ hT1).mono ?_
      rintro e w2 ⟨rfl, hb2⟩
      have hT2 := hT1.below hb2
      go_wp2_with fail
      refine (hk _ hs hT2).mono ?_
      rintro e w3 ⟨rfl, hb3⟩
      have hT3 := hT2.below hb3
      obtain ⟨a1, a2, a3, d1⟩ := c1 _ hT3
      go_wp2_with fail
      refine d1.mono ?_
      rintro e w4 ⟨rfl, hb4⟩
      obtain ⟨b1, b2, b3, d2⟩ := c2 _ (hT3.below hb4)
      clear d1
      go_wp2_with fail
      refine d2.mono ?_
      rintro e w5 ⟨rfl, hb5⟩
      clear d2
      go_wp2
      go_ret
      have h3 := hb1.trans (hb2.mono hb1.size)
      have h4 := h3.trans (hb3.mono h3.size)
      have h5 := h4.trans (hb4.mono h4.size)
      exact ⟨rfl, h5.trans (hb5.mono h5.size)⟩
    · have hf' : ((f : Int) == 0) = false := by rw [beq_eq_false_iff_ne]; omega
      clear c2
      go_enter Tryd.func3, Tryd.ntmps3
      go_wp2_with fail
      refine (alive_any _ hT).mono ?_
      rintro e w1 ⟨rfl, hb1⟩
      have hT1 := hT.below hb1
      go_wp2_with fail
      refine (hn _ hT1).mono ?_
      rintro e w2 ⟨rfl, hb2⟩
      have hT2 := hT1.below hb2
      go_wp2_with fail
      refine (hk _ hs hT2).mono ?_
      rintro e w3 ⟨rfl, hb3⟩
      have hT3 := hT2.below hb3
      obtain ⟨a1, a2, a3, d1⟩ := c1 _ hT3
      go_wp2_with fail
      refine d1.mono ?_
      rintro e w4 ⟨rfl, hb4⟩
      clear d1
      go_wp2
      go_ret
      have h3 := hb1.trans (hb2.mono hb1.size)
      have h4 := h3.trans (hb3.mono h3.size)
      exact ⟨rfl, h4.trans (hb4.mono h4.size)⟩
  · have he' : ((e : Int) == 0) = false := by rw [beq_eq_false_iff_ne]; omega
    clear c1
    by_cases hf : f = 0
    · subst hf
      replace c2 := c2 rfl
      go_enter Tryd.func3, Tryd.ntmps3
      go_wp2_with fail
      refine (alive_any _ hT).mono ?_
      rintro e w1 ⟨rfl, hb1⟩
      have hT1 := hT.below hb1
      go_wp2_with fail
      refine (hn _ hT1).mono ?_
      rintro e w2 ⟨rfl, hb2⟩
      have hT2 := hT1.below hb2
      go_wp2_with fail
      refine (hk _ hs hT2).mono ?_
      rintro e w3 ⟨rfl, hb3⟩
      have hT3 := hT2.below hb3
      obtain ⟨b1, b2, b3, d2⟩ := c2 _ hT3
      go_wp2_with fail
      refine d2.mono ?_
      rintro e w4 ⟨rfl, hb4⟩
      clear d2
      go_wp2
      go_ret
      have h3 := hb1.trans (hb2.mono hb1.size)
      have h4 := h3.trans (hb3.mono h3.size)
      exact ⟨rfl, h4.trans (hb4.mono h4.size)⟩
    · have hf' : ((f : Int) == 0) = false := by rw [beq_eq_false_iff_ne]; omega
      clear c2
      go_enter Tryd.func3, Tryd.ntmps3
      go_wp2_with fail
      refine (alive_any _ hT).mono ?_
      rintro e w1 ⟨rfl, hb1⟩
      have hT1 := hT.below hb1
      go_wp2_with fail
      refine (hn _ hT1).mono ?_
      rintro e w2 ⟨rfl, hb2⟩
      have hT2 := hT1.below hb2
      go_wp2_with fail
      refine (hk _ hs hT2).mono ?_
      rintro e w3 ⟨rfl, hb3⟩
      go_wp2
      go_ret
      have h3 := hb1.trans (hb2.mono hb1.size)
      exact ⟨rfl, h3.trans (hb3.mono h3.size)⟩
open Go.ChangeShapes Go.WideShapes Go.ChangeAt
open Go.ChangeMaps (open_string shut_string)
theorem own : ownKnob Tryd.prog.godebug = none := by kernel_rfl
theorem laidOut : laidOutB Tryd.prog = true := by kernel_rfl
def laidL : List (String × DataW Unit) := [("unicode/utf8.acceptRanges", Rows.laid_unicode_utf8_acceptRanges), ("unicode/utf8.first", Rows.laid_unicode_utf8_first)]
theorem first_eq : Rows.laid_unicode_utf8_first = Go.Lib.firstData := Pinned.utf8First_eq
theorem tabs_of {W : World} (h : laidMetH Tryd.prog laidL W) : Tabs W := by
  rw [MakeChecks.laidMetH_plain _ _ _ (by kernel_rfl)] at h
  have h1 : Go.Lib.VarReads Tryd.prog W "unicode/utf8.acceptRanges" Rows.laid_unicode_utf8_acceptRanges := Lib.laidMet.reads h (.head _)
  have h2 : Go.Lib.VarReads Tryd.prog W "unicode/utf8.first" Rows.laid_unicode_utf8_first := Lib.laidMet.reads h (.tail _ (.head _))
  rw [first_eq] at h2
  exact utf8Tabs_of_reads (ρ := Tryd.lays260_ren) { Tryd.lays260 with } ⟨by kernel_rfl, by kernel_rfl, by kernel_rfl, by kernel_rfl, by kernel_rfl, by kernel_rfl, by kernel_rfl⟩ h2 h1
set_option maxRecDepth 100000 in
theorem lifted (os : Os) (started : os.Started) (H : Type) (enc : TypeId × Value → H) :
    ReturnsInHanded {} Tryd.checked os 3 .any (fun w args => (Rows.textBothSpec.pre enc Tryd.prog Tryd.f3 Rows.textBothRow.domain false w args ∧ laidMetH Tryd.prog laidL w) ∧ sizedMet enc Tryd.prog Tryd.f3 (OpenSpec.ofChange Rows.textBothSpec) false w args)
      (Rows.textBothSpec.post enc Tryd.prog Tryd.f3 false true false false) := by
  refine returnsInHanded_of_change_and (C := Tryd.checked) (X := fun w _ => laidMetH Tryd.prog laidL w) (fun _ _ _ hh h => h.of_heap hh) own started (by kernel_rfl) Tryd.func3
    (ChangeSpec.witness_shaped (enc := enc) (C := Tryd.checked) (os := os) (X := fun w _ => laidMetH Tryd.prog laidL w) false (World.laidAll Tryd.prog os laidL) #[.string ⟨#[]⟩, .int .i64 0] 8 (World.laidAll_os _ _ _)
      (World.shaped_of_ZipB (by kernel_rfl) (by kernel_rfl)) (by kernel_rfl) (by kernel_rfl) (by kernel_rfl)
      (by rw [MakeChecks.laidMetH_plain _ _ _ (by kernel_rfl)]; exact laidMet_laidAll _ (by kernel_rfl) (by kernel_rfl))) ?_
  intro W base args ds gs before hval0 hW _ hsz0 hL _
  have hT : Tabs W := tabs_of hL
  have hsz : (DataW.weightsEach Tryd.prog (Tryd.f3.params.toList ++ Rows.textBothSpec.plain.varTypes Tryd.prog) (ds ++ gs)).all (· ≤ reachBytes) = true := hsz0
  have hval : ∀ (j : Nat) t v, Tryd.f3.params[j]? = some t → args[j]? = some v → Value.okWide Tryd.prog W .any base t v := hval0
  have hW' := hW
  obtain ⟨p, q, hA0, hV, rfl, hfz, hnd⟩ := hW
  have hA : DataW.TrodAll enc Tryd.prog W 0 (fun _ => true) true Tryd.f3.params.toList args.toList ds p := hA0
  rw [Tryd.params3] at hA hval hsz
  have hlt0 : ∀ x ∈ p, x.block < W.heap.size := fun x hx => hW'.lt x (by simp [hx])
  obtain ⟨v0, vs0, d0, ds0, p0, q0, hargs, rfl, rfl, h0, r0⟩ := trodAll_cons hA
  obtain ⟨v1, vs1, d1, ds1, p1, q1, rfl, rfl, rfl, h1, r1⟩ := trodAll_cons r0
  obtain ⟨rfl, rfl, rfl⟩ := trodAll_nil r1
  obtain rfl : args = #[v0, v1] := by cases args; simp_all
  obtain ⟨rfl, rfl⟩ := trodVars_none hV
  obtain ⟨s, rfl, rfl, rfl, ws⟩ := open_string Tryd.underlying9 (hval 0 9 v0 rfl rfl) h0
  have rs : s.size ≤ 140737488351232 := by
    have := sized_string hsz (j := 0) rfl rfl
    simpa [reachBytes] using this
  obtain ⟨a, rfl, rfl, rfl, wa⟩ := open_int Tryd.underlying3 (hval 1 3 v1 rfl rfl) h1
  clear hA0 hval0
  refine (walk s a W ws hT).mono fun e W' ⟨he, hb⟩ => ⟨_, he, ?_⟩
  exact law_post laidOut (of_decide_eq_true (by kernel_rfl)) rfl rfl Tryd.underlying4 (fun ds hl => by
    match ds, hl with
    | [_, _], _ => rfl) hW' hb

theorem proved : Rows.TextBothSaid :=
  OpenClaim.holds_of_wide 3 Tryd.f3 rfl rfl rfl rfl rfl rfl rfl ⟨rfl, rfl, rfl, rfl, rfl⟩ rfl rfl rfl rfl rfl (by kernel_rfl) Tryd.func3 (by kernel_rfl)
    (of_decide_eq_true (by kernel_rfl)) (by unfold Func.isWrapper; first | (rw [if_pos (by decide +kernel)]; kernel_rfl) | (rw [if_neg (by decide +kernel)]; exact ⟨rfl, rfl⟩))
    (fun os started H enc _ => lifted os started H enc)
theorem card : Rows.TextBothCardSaid :=
  Claim7.holds_tied_plain_at .later [] [.data, .pinned] true (true, "43a461dede2be16f7040214212f4b4820fa7ab4f6fa1eab68a6d3d071a59e634") false proved (fun _ h => by cases h) (by kernel_rfl) (fun _ h => by cases h) textBoth_row_tie rfl ⟨rfl, rfl⟩ (by kernel_rfl) rfl
    (fun f fn hf hfn => by
      obtain rfl : f = 3 := Option.some.inj ((show Tryd.prog.funcNamed "provost/provostlaw01.TextBoth" = some 3 by kernel_rfl).symm.trans hf) |>.symm
      obtain rfl : fn = Tryd.f3 := (Option.some.inj (Tryd.func3.symm.trans hfn)).symm
      exact ⟨by kernel_rfl, fun j t ht => by
        rw [Tryd.params3] at ht
        have hm := Array.mem_of_getElem? ht
        have hall : (Tryd.f3.params.toList.all fun u => !Tryd.prog.wantsStandIn u) = true := by kernel_rfl
        rw [Tryd.params3] at hall
        exact (show Tryd.prog.wantsStandIn t = false by simpa using List.all_eq_true.1 hall t (by simpa using hm))⟩)
    (by kernel_rfl)
end Go.Proofs.YtllfgkfcbicnlaaDoor.textBoth
