/- OrderNames: the limit's and the errors' numbers, and the chapter's examples. Conditions: none. -/
import Derived.Test.YtgicbpoicejmbaaRows
import Derived.Test.YtgicbpoicejmbaaAlive
import Derived.Test.YtgicbpoicejmbaaSortWalk
import Derived.Test.YtgicbpoicejmbaaOpen
import Derived.WalkKit
import Derived.OwnWalk
import Derived.ProofKit
namespace Go.Proofs.Ytgicbpoicejmbaa.orderNames
open Go.ChangeShapes Go.WideShapes Go.ChangeAt Go.RowKit
open Go.ChangeMaps (open_string shut_string)
theorem ab_pw : Pw [⟨#[97]⟩, ⟨#[98]⟩] := by
  unfold Pw
  refine List.pairwise_cons.2 ⟨fun x hx => ?_, List.pairwise_singleton _ _⟩
  obtain rfl : x = ⟨#[98]⟩ := by simpa using hx
  exact (slt_lit [97] [98]).trans (by decide)
theorem nm_sort : sortL [⟨#[98]⟩, ⟨#[97]⟩, ⟨#[98]⟩] = [⟨#[97]⟩, ⟨#[98]⟩] := by
  rw [sortL, if_pos (by decide)]
  refine pw_ext (sortB_pw _) ab_pw fun s => ?_
  rw [sortB_mem]
  simp only [List.mem_cons, List.not_mem_nil, or_false]
  constructor
  · rintro (h | h | h)
    · exact .inr h
    · exact .inl h
    · exact .inr h
  · rintro (h | h)
    · exact .inr (.inl h)
    · exact .inl h
theorem a_pw : Pw [⟨#[97]⟩] := by unfold Pw; exact List.pairwise_singleton _ _
theorem nm_drop : dropC [⟨#[97]⟩] ⟨#[98]⟩ = 6 := by
  have h1 : okB [⟨#[97]⟩] = true := okB_pw.2 ⟨by decide, a_pw⟩
  have h2 : ¬ hasB [⟨#[97]⟩] ⟨#[98]⟩ = true := by
    rw [has_mem a_pw]
    intro h
    simp at h
  unfold dropC
  rw [if_pos h1, if_neg h2]
theorem nm_check : okB [⟨#[97]⟩, ⟨#[97]⟩] = false :=
  okB_not (k := 0) (by decide) (less_irrefl _)
theorem sort_many (A : Option Addr) (c n : Nat) (w : World) (h : 4096 < n) :
    Calls Try.prog 18 #[.slice A n c] w fun e w' => e = .returned (.tuple #[.slice none 0 0, .int .i64 4]) ∧ w' = w := by
  have hd : decide ((4096 : Int) < n) = true := by simp; omega
  go_enter Try.func18, Try.ntmps18
  go_wp2
  go_ret2
  exact ⟨rfl, rfl⟩
theorem sort_many' (A : Option Addr) (c n : Nat) (w : World) (h : 4096 < n) {B : Nat} {w0 : World} (hb : Below B w0 w) :
    Calls Try.prog 18 #[.slice A n c] w fun e w' => e = .returned (.tuple #[.slice none 0 0, .int .i64 4]) ∧ Below B w0 w' :=
  (sort_many A c n w h).mono fun _ _ ⟨he, hw⟩ => ⟨he, by rw [hw]; exact hb⟩
set_option maxHeartbeats 4000000 in
set_option maxRecDepth 100000 in
theorem walk (w : World) : Calls Try.prog 8 #[] w fun e w' => e = .returned (.bool true) ∧ Below w.heap.size w w' := by
  go_enter Try.func8, Try.ntmps8
  go_wp2_with fail
  have hr0 := rd_new w #[.string ⟨#[98]⟩, .string ⟨#[97]⟩, .string ⟨#[98]⟩] 9 (sv [⟨#[98]⟩, ⟨#[97]⟩, ⟨#[98]⟩]) rfl
  have hb0 : Below w.heap.size w (w.alloc (.cells #[.string ⟨#[98]⟩, .string ⟨#[97]⟩, .string ⟨#[98]⟩] 9)) := (Below.refl _ _).alloc (Nat.le_refl _) _
  refine (sort_any (some ⟨w.heap.size, 0, none⟩) 3 [⟨#[98]⟩, ⟨#[97]⟩, ⟨#[98]⟩] _ hr0 (by simp) (by unfold maxLen; decide)).mono ?_
  rintro e w1 ⟨v, rfl, hown, hb1⟩
  rw [nm_sort] at hown
  rw [show sortC [⟨#[98]⟩, ⟨#[97]⟩, ⟨#[98]⟩] = 0 from rfl]
  obtain ⟨A1, c1, rfl, _, _⟩ := own_slice hown
  have hL1 := Rd.of_own hown
  have h1 := hb0.trans (hb1.mono hb0.size)
  clear hown hb1 hb0 hr0
  go_wp2_with fail
  have hr1 := rd_new w1 #[.string ⟨#[97]⟩] 9 (sv [⟨#[97]⟩]) rfl
  refine (drop_any (some ⟨w1.heap.size, 0, none⟩) 1 [⟨#[97]⟩] ⟨#[98]⟩ _ hr1 (by unfold maxLen; decide)).mono ?_
  rintro e w2 ⟨v, rfl, hown, hb2⟩
  rw [nm_drop]
  have hb2' : Below w1.heap.size w1 w2 := ((Below.refl _ _).alloc (Nat.le_refl _) _).trans (hb2.mono (by simp))
  have hL2 := hL1.thru hb2' (Nat.le_refl _)
  have h2 := h1.trans (hb2'.mono h1.size)
  have hs2 := hb2'.size
  obtain ⟨A2, c2, rfl, _, _⟩ := own_slice hown
  clear hown hb2 hr1 hL1 hb2' h1
  obtain ⟨i1, hi, hz0, hz1, hz2⟩ := info_parts info_str
  go_wp2
  obtain ⟨w3, hrun, _, hg3⟩ := run_make_full (P := Try.prog) w2 w2.heap.size 26 9 i1 (.string ⟨#[]⟩) 1 Try.underlying26 hi hz0 hz1 .i64 .i64 4097 (by rw [hz2]; decide) (by unfold maxLen; decide) (Nat.le_refl _)
  have hrun2 : (Instr.makeSlice 26 (.int .i64 4097) (.int .i64 4097)).run Try.prog w2 = .ok (.slice (some ⟨w2.heap.size, 0, none⟩) 4097 4097) w3 := hrun
  rw [hrun2]
  clear hrun hrun2
  go_wp2_with fail
  refine (sort_many (some ⟨w2.heap.size, 0, none⟩) 4097 4097 w3 (by decide)).mono ?_
  rintro e w4 ⟨rfl, rfl⟩
  have hb3 : Below w2.heap.size w2 w4 := (Below.refl _ _).grown hg3 (Nat.le_refl _) (fun k hk => by cases hk)
  obtain ⟨w3, rfl⟩ : ∃ w3, w3 = w4 := ⟨_, rfl⟩
  have hL3 := hL2.thru hb3 hs2
  have h3 := h2.trans (hb3.mono h2.size)
  have hs3 := Nat.le_trans hs2 hb3.size
  clear hL2 h2 hs2 hb3 hg3
  have hc1 := fun W => compare_any ⟨#[90]⟩ ⟨#[97]⟩ W
  have hc2 := fun W => compare_any ⟨#[255]⟩ ⟨#[97]⟩ W
  rw [show scmp ⟨#[90]⟩ ⟨#[97]⟩ = -1 from (scmp_lit [90] [97]).trans (by decide)] at hc1
  rw [show scmp ⟨#[255]⟩ ⟨#[97]⟩ = 1 from (scmp_lit [255] [97]).trans (by decide)] at hc2
  go_wp2_with fail
  refine (alive_any _).mono ?_
  rintro e w4 ⟨rfl, hb4⟩
  have hL4 := hL3.thru hb4 hs3
  have h4 := h3.trans (hb4.mono h3.size)
  have hs4 := Nat.le_trans hs3 hb4.size
  clear hL3 h3 hs3 hb4
  go_wp2_with fail
  refine (hc1 _).mono ?_
  rintro e w5 ⟨rfl, rfl⟩
  go_wp2_with fail
  refine (hc2 _).mono ?_
  rintro e w5 ⟨rfl, rfl⟩
  go_wp2_with fail
  have hba : Below w4.heap.size w4 (w4.alloc (.cells #[.string ⟨#[97]⟩, .string ⟨#[98]⟩] 9)) := (Below.refl _ _).alloc (Nat.le_refl _) _
  refine (same_any A1 (some ⟨w4.heap.size, 0, none⟩) c1 2 [⟨#[97]⟩, ⟨#[98]⟩] [⟨#[97]⟩, ⟨#[98]⟩] _ (hL4.thru hba hs4) (rd_new w4 _ 9 _ rfl) (by unfold maxLen; decide)).mono ?_
  rintro e w6 ⟨rfl, n6, hd6⟩
  have hb6 := h4.trans ((hba.trans ((world_of ⟨n6, hd6⟩).mono hba.size)).mono h4.size)
  clear hd6
  rw [decide_eq_true rfl]
  go_wp2_with fail
  refine (check_any (some ⟨w6.heap.size, 0, none⟩) 2 [⟨#[97]⟩, ⟨#[97]⟩] _ (rd_new w6 #[.string ⟨#[97]⟩, .string ⟨#[97]⟩] 9 _ rfl) (by unfold maxLen; decide)).mono ?_
  rintro e w7 ⟨rfl, n7, rfl⟩
  rw [nm_check, show code false = 8 from rfl]
  go_wp2
  go_ret
  exact ⟨rfl, (hb6.alloc hb6.size _).drewN' _⟩
theorem own : ownKnob Try.prog.godebug = none := by kernel_rfl
theorem laidOut : laidOutB Try.prog = true := by kernel_rfl
set_option maxRecDepth 100000 in
theorem lifted (os : Os) (started : os.Started) (H : Type) (enc : TypeId × Value → H) :
    ReturnsInHanded {} Try.checked os 8 .any (Rows.orderNamesSpec.pre6 enc Try.prog Try.f8 Rows.orderNamesRow.domain false) (Rows.orderNamesSpec.post enc Try.prog Try.f8 false true false false) := by
  refine returnsInHanded_of_change_shaped (C := Try.checked) own started (by kernel_rfl) Try.func8
    (ChangeSpec.witness6 (enc := enc) (C := Try.checked) false ⟨#[], #[], []⟩ 8 (by kernel_rfl) (by kernel_rfl) (by kernel_rfl) (by kernel_rfl)) ?_
  intro W base args ds gs before hval0 hW _ hsz0 hsh0 _
  have hsh : W.ShapedOpen Try.prog := hsh0
  have hsz : (DataW.weightsEach Try.prog (Try.f8.params.toList ++ Rows.orderNamesSpec.plain.varTypes Try.prog) (ds ++ gs)).all (· ≤ reachBytes) = true := hsz0
  clear hsz0 hsh0
  have hval : ∀ (j : Nat) t v, Try.f8.params[j]? = some t → args[j]? = some v → Value.okWide Try.prog W .any base t v := hval0
  have hW' := hW
  obtain ⟨p, q, hA0, hV, rfl, hfz, hnd⟩ := hW
  have hA : DataW.TrodAll enc Try.prog W 0 (fun _ => true) true Try.f8.params.toList args.toList ds p := hA0
  rw [Try.params8] at hA hval hsz
  have hlt0 : ∀ x ∈ p, x.block < W.heap.size := fun x hx => hW'.lt x (by simp [hx])
  obtain ⟨hargs, rfl, rfl⟩ := trodAll_nil hA
  obtain rfl : args = #[] := by cases args; simp_all
  obtain ⟨rfl, rfl⟩ := trodVars_none hV
  clear hA0 hval0
  refine (walk W).mono fun e W' ⟨he, hb⟩ => ⟨_, he, ?_⟩
  exact law_post laidOut (of_decide_eq_true (by kernel_rfl)) rfl rfl Try.underlying4 (fun ds hl => by
    match ds, hl with
    | [], _ => rfl) hW' hb

theorem proved : Rows.OrderNamesSaid :=
  OpenClaim.holds_of_wide 8 Try.f8 rfl rfl rfl rfl rfl rfl rfl ⟨rfl, rfl, rfl, rfl, rfl⟩ rfl rfl rfl rfl rfl (by kernel_rfl) Try.func8 (by kernel_rfl)
    (of_decide_eq_true (by kernel_rfl)) (by unfold Func.isWrapper; first | (rw [if_pos (by decide +kernel)]; kernel_rfl) | (rw [if_neg (by decide +kernel)]; exact ⟨rfl, rfl⟩))
    (fun os started H enc _ => lifted os started H enc)
end Go.Proofs.Ytgicbpoicejmbaa.orderNames
