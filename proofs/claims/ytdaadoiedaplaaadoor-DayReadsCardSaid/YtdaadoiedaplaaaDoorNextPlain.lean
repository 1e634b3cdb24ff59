/- Plain law of dates: the next day is the next date. Conditions: those of each theorem. -/
import Derived.Test.YtdaadoiedaplaaaDoorOpenD
namespace Go.Proofs.YtdaadoiedaplaaaDoor
open Go.RowKit Go.Lib
/-- the next date, as the law asks it -/
def nextD (y m n u v w : Int) : Prop := u = y ∧ v = m ∧ w = n + 1 ∨ u = y ∧ v = m + 1 ∧ w = 1 ∧ n ≥ 28 ∨ u = y + 1 ∧ v = 1 ∧ w = 1 ∧ m = 12 ∧ n = 31
theorem dim_bd (y m : Int) (h1 : 1 ≤ m) (h2 : m ≤ 12) : 28 ≤ dim y m ∧ dim y m ≤ 31 := by
  have hc : m = 1 ∨ m = 2 ∨ m = 3 ∨ m = 4 ∨ m = 5 ∨ m = 6 ∨ m = 7 ∨ m = 8 ∨ m = 9 ∨ m = 10 ∨ m = 11 ∨ m = 12 := by omega
  rcases hc with rfl | rfl | rfl | rfl | rfl | rfl | rfl | rfl | rfl | rfl | rfl | rfl
  all_goals
    by_cases h : leap y = true <;> simp [dim, h]
theorem next_month (y m : Int) (h1 : 1 ≤ m) (h2 : m ≤ 11) : sinceD y (m + 1) 1 = sinceD y m (dim y m) + 1 ∧ 28 ≤ dim y m := by
  have hg := gM_succ (y - 1)
  rw [show y - 1 + 1 = y by omega] at hg
  have hl := leap_iff (y - 1)
  have hn := fun h => @leap_not (y - 1) h
  rw [show y - 1 + 1 = y by omega] at hl hn
  have hc : m = 1 ∨ m = 2 ∨ m = 3 ∨ m = 4 ∨ m = 5 ∨ m = 6 ∨ m = 7 ∨ m = 8 ∨ m = 9 ∨ m = 10 ∨ m = 11 := by omega
  rcases hc with rfl | rfl | rfl | rfl | rfl | rfl | rfl | rfl | rfl | rfl | rfl
  · rw [sinceD_eq, sinceD_eq]; simp [mY, mM, ahM, dim]; omega
  · rw [sinceD_eq, sinceD_eq]
    by_cases h : leap y = true
    · have := hl.1 h
      simp [mY, mM, ahM, dim, h]; omega
    · have := hn h
      simp [mY, mM, ahM, dim, h]; omega
  all_goals
    rw [sinceD_eq, sinceD_eq]; simp [mY, mM, ahM, dim]; try omega
theorem next_year (y : Int) : sinceD (y + 1) 1 1 = sinceD y 12 31 + 1 := by
  rw [sinceD_eq, sinceD_eq]; simp [mY, mM, ahM]; omega
theorem next_day (n : Int) : nextD (dateD n).1 (dateD n).2.1 (dateD n).2.2 (dateD (n + 1)).1 (dateD (n + 1)).2.1 (dateD (n + 1)).2.2 ∧ 1 ≤ (dateD n).2.1 ∧ (dateD n).2.1 ≤ 12 ∧ 1 ≤ (dateD n).2.2 ∧ (dateD n).2.2 ≤ 31 := by
  obtain ⟨y, m, d, h1, h2, h3, h4, h5, h6⟩ := date_spec n
  have hd := dim_bd y m h2 h3
  refine ⟨?_, by rw [h1]; exact ⟨h2, h3, h4, by show d ≤ 31; omega⟩⟩
  rw [h1]
  by_cases hd1 : d + 1 ≤ dim y m
  · have h9 := date_since y m (d + 1) h2 h3 (by omega) hd1
    rw [show sinceD y m (d + 1) = n + 1 by rw [← h6, sinceD_eq, sinceD_eq]; omega] at h9
    rw [h9]
    exact .inl ⟨rfl, rfl, rfl⟩
  · obtain rfl : d = dim y m := by omega
    by_cases hm : m = 12
    · subst hm
      have h9 := date_since (y + 1) 1 1 (by omega) (by omega) (by omega) (by simp [dim])
      rw [next_year, show (31 : Int) = dim y 12 by simp [dim], h6] at h9
      rw [h9]
      exact .inr (.inr ⟨rfl, rfl, rfl, rfl, by simp [dim]⟩)
    · obtain ⟨h10, h11⟩ := next_month y m h2 (by omega)
      have h9 := date_since y (m + 1) 1 (by omega) (by omega) (by omega) (by have := (dim_bd y (m + 1) (by omega) (by omega)).1; omega)
      rw [h10, h6] at h9
      rw [h9]
      exact .inr (.inl ⟨rfl, rfl, rfl, h11⟩)
theorem b2i_any (b : Bool) (w : World) : Calls Tryd.prog 23 #[.bool b] w fun e w' => e = .returned (.int .i64 (if b = true then 1 else 0)) ∧ w = w' := by
  cases b
  · go_enter Tryd.func23, Tryd.ntmps23
    go_wp2
    go_ret
    exact ⟨rfl, rfl⟩
  · go_enter Tryd.func23, Tryd.ntmps23
    go_wp2
    go_ret
    exact ⟨rfl, rfl⟩
end Go.Proofs.YtdaadoiedaplaaaDoor
