/- Contracts of the program's dates: floor, ahead, since, date, Check, Date. Conditions: those of each theorem. -/
import Derived.Test.YtdaadoiedaplaaaDoorBase
import Derived.Test.YtdaadoiedaplaaaDoorProg
import Derived.Test.YtdaadoiedaplaaaDoorDayPlain
namespace Go.Proofs.YtdaadoiedaplaaaDoor
open Go.RowKit
theorem idx_ahead : ∀ (m : Nat) (_ : m ≤ 11) (W : World), (Instr.index 85 (.agg #[.int .i64 0, .int .i64 31, .int .i64 61, .int .i64 92, .int .i64 122, .int .i64 153, .int .i64 184, .int .i64 214, .int .i64 245, .int .i64 275, .int .i64 306, .int .i64 337]) (.int .i64 m)).run Tryd.prog W = .ok (.int .i64 (ahM m)) W
  | 0, _, _ => by kernel_rfl
  | 1, _, _ => by kernel_rfl
  | 2, _, _ => by kernel_rfl
  | 3, _, _ => by kernel_rfl
  | 4, _, _ => by kernel_rfl
  | 5, _, _ => by kernel_rfl
  | 6, _, _ => by kernel_rfl
  | 7, _, _ => by kernel_rfl
  | 8, _, _ => by kernel_rfl
  | 9, _, _ => by kernel_rfl
  | 10, _, _ => by kernel_rfl
  | 11, _, _ => by kernel_rfl
  | n + 12, h, _ => by omega
set_option maxRecDepth 100000 in
theorem ahead_any (m : Nat) (h : m ≤ 11) (w : World) : Calls Tryd.prog 45 #[.int .i64 m] w fun e w' => e = .returned (.int .i64 (ahM m)) ∧ w = w' := by
  have hx := idx_ahead m h
  go_enter Tryd.func45, Tryd.ntmps45
  go_wp2
  go_ret
  exact ⟨rfl, rfl⟩
theorem neg_tdiv_lit (a b : Int) (ha : a < 0) : a.tdiv b = -((-a) / b) ∧ a.tmod b = -((-a) % b) := by
  have e : a = -(-a) := by omega
  have h0 : (0 : Int) ≤ -a := by omega
  refine ⟨?_, ?_⟩
  · conv => lhs; rw [e]
    rw [Int.neg_tdiv, Int.tdiv_eq_ediv_of_nonneg h0]
  · conv => lhs; rw [e]
    rw [Int.neg_tmod, Int.tmod_eq_emod_of_nonneg h0]
theorem floor_any (a b : Int) (hb : b = 4 ∨ b = 100 ∨ b = 400 ∨ b = 146097) (h0 : -1000000 ≤ a) (h1 : a ≤ 1000000000) (w : World) :
    Calls Tryd.prog 44 #[.int .i64 a, .int .i64 b] w fun e w' => e = .returned (.int .i64 (a / b)) ∧ w = w' := by
  by_cases ha : 0 ≤ a
  · have hbp : 1 ≤ b := by omega
    have hm : ¬ a % b < 0 := by
      have := Int.emod_nonneg a (show b ≠ 0 by omega)
      omega
    have hq : 0 ≤ a / b ∧ a / b ≤ 1000000000 := by
      rcases hb with rfl | rfl | rfl | rfl <;> omega
    clear hb
    go_enter Tryd.func44, Tryd.ntmps44
    go_wp2
    go_ret
    exact ⟨rfl, rfl⟩
  · have hbp : 1 ≤ b := by omega
    obtain ⟨e1, e2⟩ := neg_tdiv_lit a b (by omega)
    by_cases hz : (-a) % b = 0
    · have hq : a.tdiv b = a / b := by
        rw [e1]
        rcases hb with rfl | rfl | rfl | rfl <;> omega
      have hm : a.tmod b = 0 := by rw [e2, hz]; rfl
      have hr : -1000000 ≤ a / b ∧ a / b ≤ 0 := by
        rcases hb with rfl | rfl | rfl | rfl <;> omega
      clear e1 e2 hz hb
      go_enter Tryd.func44, Tryd.ntmps44
      go_wp2
      go_ret
      exact ⟨rfl, rfl⟩
    · have hq : a.tdiv b = a / b + 1 := by
        rw [e1]
        rcases hb with rfl | rfl | rfl | rfl <;> omega
      have hm : a.tmod b < 0 := by
        rw [e2]
        have := Int.emod_nonneg (-a) (show b ≠ 0 by omega)
        omega
      have hr : -1000000 ≤ a / b ∧ a / b ≤ 0 := by
        rcases hb with rfl | rfl | rfl | rfl <;> omega
      clear e1 e2 hz hb
      go_enter Tryd.func44, Tryd.ntmps44
      go_wp2
      go_ret
      exact ⟨ret_int (by omega), rfl⟩
theorem ahM_bd (m : Nat) : 0 ≤ ahM m ∧ ahM m ≤ 337 := by
  unfold ahM
  split <;> omega
set_option maxHeartbeats 1000000 in
theorem since_any (y m d : Int) (w : World) (y0 : 0 ≤ y) (y1 : y ≤ 9999) (m0 : 1 ≤ m) (m1 : m ≤ 12) (d0 : 1 ≤ d) (d1 : d ≤ 31) :
    Calls Tryd.prog 28 #[.int .i64 y, .int .i64 m, .int .i64 d] w fun e w' => e = .returned (.int .i64 (sinceD y m d)) ∧ w = w' := by
  by_cases hm : m < 3
  · have hm3 : m - 3 < 0 := by omega
    obtain ⟨M, hM⟩ : ∃ M : Nat, m - 3 + 12 = M := ⟨(m - 3 + 12).toNat, by omega⟩
    have hM11 : M ≤ 11 := by omega
    have hS : sinceD y m d = 365 * (y - 1) + (y - 1) / 4 - (y - 1) / 100 + (y - 1) / 400 + ahM M + d - 1 := by
      unfold sinceD
      rw [if_pos hm, show (m + 9).toNat = M by omega]
    have hb := ahM_bd M
    have ha := ahead_any M hM11
    have f1 := fun w => floor_any (y - 1) 4 (by omega) (by omega) (by omega) w
    have f2 := fun w => floor_any (y - 1) 100 (by omega) (by omega) (by omega) w
    have f3 := fun w => floor_any (y - 1) 400 (by omega) (by omega) (by omega) w
    have q1 : -1 ≤ (y - 1) / 4 ∧ (y - 1) / 4 ≤ 9999 := by omega
    have q2 : -1 ≤ (y - 1) / 100 ∧ (y - 1) / 100 ≤ 9999 := by omega
    have q3 : -1 ≤ (y - 1) / 400 ∧ (y - 1) / 400 ≤ 9999 := by omega
    generalize ahM M = K at *
    generalize (y - 1) / 4 = Q1 at *
    generalize (y - 1) / 100 = Q2 at *
    generalize (y - 1) / 400 = Q3 at *
    have HS := Lib.hid hS
    clear hS
    go_enter Tryd.func28, Tryd.ntmps28
    go_wp2_with fail
    refine (f1 _).mono ?_
    rintro e w' ⟨rfl, rfl⟩
    go_wp2_with fail
    refine (f2 _).mono ?_
    rintro e w' ⟨rfl, rfl⟩
    go_wp2_with fail
    refine (f3 _).mono ?_
    rintro e w' ⟨rfl, rfl⟩
    go_wp2_with fail
    refine (ha _).mono ?_
    rintro e w' ⟨rfl, rfl⟩
    go_wp2
    go_ret
    exact ⟨ret_int (by rw [HS.out]), rfl⟩
  · have hm3 : ¬ m - 3 < 0 := by omega
    obtain ⟨M, hM⟩ : ∃ M : Nat, m - 3 = M := ⟨(m - 3).toNat, by omega⟩
    have hM11 : M ≤ 11 := by omega
    have hS : sinceD y m d = 365 * y + y / 4 - y / 100 + y / 400 + ahM M + d - 1 := by
      unfold sinceD
      rw [if_neg hm, show (m - 3).toNat = M by omega]
    have hb := ahM_bd M
    have ha := ahead_any M hM11
    have f1 := fun w => floor_any y 4 (by omega) (by omega) (by omega) w
    have f2 := fun w => floor_any y 100 (by omega) (by omega) (by omega) w
    have f3 := fun w => floor_any y 400 (by omega) (by omega) (by omega) w
    have q1 : -1 ≤ y / 4 ∧ y / 4 ≤ 9999 := by omega
    have q2 : -1 ≤ y / 100 ∧ y / 100 ≤ 9999 := by omega
    have q3 : -1 ≤ y / 400 ∧ y / 400 ≤ 9999 := by omega
    generalize ahM M = K at *
    generalize y / 4 = Q1 at *
    generalize y / 100 = Q2 at *
    generalize y / 400 = Q3 at *
    have HS := Lib.hid hS
    clear hS
    go_enter Tryd.func28, Tryd.ntmps28
    go_wp2_with fail
    refine (f1 _).mono ?_
    rintro e w' ⟨rfl, rfl⟩
    go_wp2_with fail
    refine (f2 _).mono ?_
    rintro e w' ⟨rfl, rfl⟩
    go_wp2_with fail
    refine (f3 _).mono ?_
    rintro e w' ⟨rfl, rfl⟩
    go_wp2_with fail
    refine (ha _).mono ?_
    rintro e w' ⟨rfl, rfl⟩
    go_wp2
    go_ret
    exact ⟨ret_int (by rw [HS.out]), rfl⟩
end Go.Proofs.YtdaadoiedaplaaaDoor
