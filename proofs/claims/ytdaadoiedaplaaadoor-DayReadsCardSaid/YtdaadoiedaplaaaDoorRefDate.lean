/- The reference's Date, in the program's own terms. Conditions: none. -/
import Derived.Test.YtdaadoiedaplaaaDoorRefOn
namespace Go.Proofs.YtdaadoiedaplaaaDoor
open Go.RowKit Go.Lib
set_option maxHeartbeats 4000000 in
theorem date_ref (s n : Int) (w : World) : Calls Tryd.prog 15 #[.agg #[.int .i64 s, .int .i64 n]] w fun e w' => e = .returned (DateV s n) ∧ Below w.heap.size w w' := by
  have hm := fun W => may_ref s n W
  by_cases hok : okD s n = true
  · have hr := hok
    unfold okD at hr
    rw [decide_eq_true_iff] at hr
    have ho := fun W => on_ref s n hr.1 hr.2.1 W
    have hV : DateV s n = .tuple #[.int .i64 (dateD (dayOf s)).1, .int .i64 (dateD (dayOf s)).2.1, .int .i64 (dateD (dayOf s)).2.2, .int .i64 0] := if_pos hok
    rw [hok] at hm
    rw [hV]
    generalize (dateD (dayOf s)).1 = y at *
    generalize (dateD (dayOf s)).2.1 = m at *
    generalize (dateD (dayOf s)).2.2 = d at *
    clear hV hok hr
    have HM := Lib.hid hm
    have HO := Lib.hid ho
    clear hm ho
    go_enter Tryd.func15, Tryd.ntmps15
    go_wp2_with fail
    refine (HM.out _).mono ?_
    rintro e w1 ⟨rfl, hb⟩
    obtain ⟨c0, c1⟩ := day_cells _ _ _ _ hb
    have HB1 := Lib.hid (bt (bAl w (.cells #[.int .i64 s, .int .i64 n] 23)) (bAl w (.cells #[.int .i64 s, .int .i64 n] 23)).size hb)
    clear hb
    go_wp2_with fail
    refine (HO.out _).mono ?_
    rintro e w2 ⟨rfl, hb⟩
    go_wp2_with fail
    (try simp only [Exit.inBlock, Exit.then])
    refine bodyPost_ret (v := .tuple #[.int .i64 y, .int .i64 m, .int .i64 d, .int .i64 0]) (by simp [results, Tryd.results15, go_sem]) rfl ⟨rfl, bt HB1.out HB1.out.size hb⟩
  · have hV : DateV s n = .tuple #[.int .i64 0, .int .i64 0, .int .i64 0, .int .i64 120] := if_neg hok
    rw [show okD s n = false by simpa using hok] at hm
    rw [hV]
    clear hV hok
    have HM := Lib.hid hm
    clear hm
    go_enter Tryd.func15, Tryd.ntmps15
    go_wp2_with fail
    refine (HM.out _).mono ?_
    rintro e w1 ⟨rfl, hb⟩
    go_wp2_with fail
    (try simp only [Exit.inBlock, Exit.then])
    refine bodyPost_ret (v := .tuple #[.int .i64 0, .int .i64 0, .int .i64 0, .int .i64 120]) (by simp [results, Tryd.results15, go_sem]) rfl ⟨rfl, bt (bAl w _) (bAl w _).size hb⟩
end Go.Proofs.YtdaadoiedaplaaaDoor
