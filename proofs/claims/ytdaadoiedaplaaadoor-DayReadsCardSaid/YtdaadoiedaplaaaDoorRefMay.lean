/- The reference's May, Check, Compare, in the program's own terms. Conditions: none. -/
import Derived.Test.YtdaadoiedaplaaaDoorRefOff
namespace Go.Proofs.YtdaadoiedaplaaaDoor
open Go.RowKit Go.Lib
set_option maxHeartbeats 2000000 in
theorem may_ref (s n : Int) (w : World) : Calls Tryd.prog 33 #[.agg #[.int .i64 s, .int .i64 n]] w fun e w' => e = .returned (.bool (okD s n)) ∧ Below w.heap.size w w' := by
  obtain ⟨V, hV⟩ : ∃ V, okD s n = V := ⟨_, rfl⟩
  have hV2 : (0 ≤ s ∧ s ≤ 315569519999 ∧ 0 ≤ n ∧ n ≤ 999999999) ↔ V = true := by rw [← hV]; unfold okD; rw [decide_eq_true_iff]
  rw [hV]
  have HV := Lib.hid hV2
  clear hV hV2
  have HB := Lib.hid (bAl w (.cells #[.int .i64 s, .int .i64 n] 23))
  go_enter Tryd.func33, Tryd.ntmps33
  go_wp2_with fail
  all_goals
    go_ret
    refine ⟨ret_bool ?_, HB.out⟩
    rw [Bool.eq_iff_iff, ← HV.out]
    simp
    try omega
set_option maxHeartbeats 2000000 in
theorem check_ref (s n : Int) (w : World) : Calls Tryd.prog 17 #[.agg #[.int .i64 s, .int .i64 n]] w fun e w' => e = .returned (.int .i64 (errD s n)) ∧ Below w.heap.size w w' := by
  have hm := fun W => may_ref s n W
  by_cases hok : okD s n = true
  · rw [hok] at hm
    have he : errD s n = 0 := if_pos hok
    rw [he]
    clear he hok
    have HM := Lib.hid hm
    clear hm
    go_enter Tryd.func17, Tryd.ntmps17
    go_wp2_with fail
    refine (HM.out _).mono ?_
    rintro e w1 ⟨rfl, hb⟩
    go_wp2_with fail
    go_ret
    exact ⟨rfl, bt (bAl w _) (bAl w _).size hb⟩
  · rw [show okD s n = false by simpa using hok] at hm
    have he : errD s n = 120 := if_neg hok
    rw [he]
    clear he hok
    have HM := Lib.hid hm
    clear hm
    go_enter Tryd.func17, Tryd.ntmps17
    go_wp2_with fail
    refine (HM.out _).mono ?_
    rintro e w1 ⟨rfl, hb⟩
    go_wp2_with fail
    go_ret
    exact ⟨rfl, bt (bAl w _) (bAl w _).size hb⟩
set_option maxHeartbeats 2000000 in
theorem compare_ref (s n t m : Int) (w : World) : Calls Tryd.prog 19 #[.agg #[.int .i64 s, .int .i64 n], .agg #[.int .i64 t, .int .i64 m]] w fun e w' => e = .returned (.int .i64 (cmpD s n t m)) ∧ Below w.heap.size w w' := by
  obtain ⟨V, hV⟩ : ∃ V, cmpD s n t m = V := ⟨_, rfl⟩
  have h1 : s < t ∨ s = t ∧ n < m → V = -1 := by
    rw [← hV]; unfold cmpD cmp2
    intro h
    repeat' split
    all_goals omega
  have h2 : s = t ∧ n = m → V = 0 := by rw [← hV]; exact (cmpD_zero _ _ _ _).2
  have h3 : t < s ∨ s = t ∧ m < n → V = 1 := by
    rw [← hV]; unfold cmpD cmp2
    intro h
    repeat' split
    all_goals omega
  rw [hV]
  have H1 := Lib.hid h1
  have H2 := Lib.hid h2
  have H3 := Lib.hid h3
  clear hV h1 h2 h3
  go_enter Tryd.func19, Tryd.ntmps19
  go_wp2_with fail
  all_goals
    go_ret
    refine ⟨ret_int ?_, bt (bAl w _) (bAl w _).size (bAl _ _)⟩
    first
      | exact (H1.out (by omega)).symm
      | exact (H2.out (by omega)).symm
      | exact (H3.out (by omega)).symm
end Go.Proofs.YtdaadoiedaplaaaDoor
