/- The reference's Leap, Days, ahead, in the program's own terms. Conditions: those of each theorem. -/
import Derived.Test.YtdaadoiedaplaaaDoorOrdPlain
namespace Go.Proofs.YtdaadoiedaplaaaDoor
open Go.RowKit Go.Lib
theorem leap_ref (y : Nat) (hy : y ≤ 9999) (w : World) : Calls Tryd.prog 46 #[.int .i64 y] w fun e w' => e = .returned (.bool (leap y)) ∧ w = w' := by
  go_enter Tryd.func46, Tryd.ntmps46
  go_wp2_with fail
  all_goals
    go_ret
    refine ⟨ret_bool ?_, rfl⟩
    rw [Bool.eq_iff_iff]
    unfold leap
    rw [decide_eq_true_iff]
    simp
    omega
theorem idx_days : ∀ (m : Nat) (_ : m ≤ 12) (_ : 1 ≤ m) (_ : m ≠ 2) (W : World) (y : Int), (Instr.index 73 (.agg #[.int .i64 0, .int .i64 31, .int .i64 28, .int .i64 31, .int .i64 30, .int .i64 31, .int .i64 30, .int .i64 31, .int .i64 31, .int .i64 30, .int .i64 31, .int .i64 30, .int .i64 31]) (.int .i64 m)).run Tryd.prog W = .ok (.int .i64 (dim y m)) W
  | 0, _, h, _, _, _ => absurd h (by decide)
  | 1, _, _, _, _, _ => by kernel_rfl
  | 2, _, _, h, _, _ => absurd rfl h
  | 3, _, _, _, _, _ => by kernel_rfl
  | 4, _, _, _, _, _ => by kernel_rfl
  | 5, _, _, _, _, _ => by kernel_rfl
  | 6, _, _, _, _, _ => by kernel_rfl
  | 7, _, _, _, _, _ => by kernel_rfl
  | 8, _, _, _, _, _ => by kernel_rfl
  | 9, _, _, _, _, _ => by kernel_rfl
  | 10, _, _, _, _, _ => by kernel_rfl
  | 11, _, _, _, _, _ => by kernel_rfl
  | 12, _, _, _, _, _ => by kernel_rfl
  | k + 13, h, _, _, _, _ => absurd h (by omega)
set_option maxHeartbeats 2000000 in
set_option maxRecDepth 100000 in
theorem days_ref (y m : Nat) (hy : y ≤ 9999) (m1 : 1 ≤ m) (m12 : m ≤ 12) (w : World) : Calls Tryd.prog 30 #[.int .i64 y, .int .i64 m] w fun e w' => e = .returned (.int .i64 (dim y m)) ∧ w = w' := by
  have hlp := fun W => leap_ref y hy W
  by_cases h2 : m = 2
  · subst h2
    by_cases hl : leap y = true
    · rw [hl] at hlp
      go_enter Tryd.func30, Tryd.ntmps30
      go_wp2_with fail
      refine (hlp _).mono ?_
      rintro e w' ⟨rfl, rfl⟩
      go_wp2_with fail
      go_ret
      exact ⟨ret_int (by simp [dim, hl]), rfl⟩
    · have hl' : leap y = false := by simpa using hl
      rw [hl'] at hlp
      have hi2 : ∀ W, (Instr.index 73 (.agg #[.int .i64 0, .int .i64 31, .int .i64 28, .int .i64 31, .int .i64 30, .int .i64 31, .int .i64 30, .int .i64 31, .int .i64 31, .int .i64 30, .int .i64 31, .int .i64 30, .int .i64 31]) (.int .i64 2)).run Tryd.prog W = .ok (.int .i64 28) W := fun W => by kernel_rfl
      go_enter Tryd.func30, Tryd.ntmps30
      go_wp2_with fail
      refine (hlp _).mono ?_
      rintro e w' ⟨rfl, rfl⟩
      go_wp2_with fail
      go_ret
      exact ⟨ret_int (by simp [dim, hl]), rfl⟩
  · have hm : ((m : Int) == 2) = false := by rw [beq_eq_false_iff_ne]; omega
    have hi := fun W => idx_days m m12 m1 h2 W y
    go_enter Tryd.func30, Tryd.ntmps30
    go_wp2_with fail
    go_ret
    exact ⟨rfl, rfl⟩
theorem year_next (i : Int) : sinceD (i + 1) 1 1 = sinceD i 1 1 + (if leap i = true then 366 else 365) := by
  have hg := gM_succ (i - 1)
  rw [show i - 1 + 1 = i by omega] at hg
  have hl := leap_iff (i - 1)
  have hn := fun h => @leap_not (i - 1) h
  rw [show i - 1 + 1 = i by omega] at hl hn
  rw [sinceD_eq, sinceD_eq]
  by_cases h : leap i = true
  · have := hl.1 h
    simp [mY, mM, ahM, h]; omega
  · have := hn h
    simp [mY, mM, ahM, h]; omega
theorem month_next (y m : Int) (h1 : 1 ≤ m) (h2 : m ≤ 11) : sinceD y (m + 1) 1 = sinceD y m 1 + dim y m := by
  have := (next_month y m h1 h2).1
  rw [this, sinceD_eq, sinceD_eq]
  omega
theorem since_le (y : Int) (y0 : 0 ≤ y) (y1 : y ≤ 10000) : -60 ≤ sinceD y 1 1 ∧ sinceD y 1 1 ≤ 4000000 := by
  rw [sinceD_eq]
  simp [mY, mM, ahM]
  unfold gM
  omega
set_option maxHeartbeats 4000000 in
theorem ahead_ref (y m d : Nat) (hy : y ≤ 9999) (m1 : 1 ≤ m) (m12 : m ≤ 12) (d1 : 1 ≤ d) (d31 : d ≤ 31) (w : World) :
    Calls Tryd.prog 32 #[.int .i64 y, .int .i64 m, .int .i64 d] w fun e w' => e = .returned (.int .i64 (sinceD y m d + 60)) ∧ w = w' := by
  go_enter Tryd.func32, Tryd.ntmps32
  go_wp2_with fail
  go_loopw [7, 8] (fun v i wr => ∃ k : Nat, k ≤ y ∧ i = .int .i64 k ∧ v = .int .i64 (sinceD k 1 1 + 60) ∧ w = wr) (fun _ i _ => y - (RowKit.intOf i).toNat)
  case atStart => exact ⟨0, Nat.zero_le _, rfl, rfl, rfl⟩
  case round =>
    obtain ⟨k, hk, rfl, rfl, rfl⟩ := hrel
    have hb := since_le k (by omega) (by omega)
    obtain ⟨b0, b1⟩ := hb
    by_cases hlt : k < y
    · have hlp := fun W => leap_ref k (by omega) W
      have hnx := year_next k
      by_cases hl : leap k = true
      · rw [hl] at hlp
        rw [if_pos hl] at hnx
        have HN := Lib.hid hnx
        clear hnx hl
        go_wp2_with fail
        refine (hlp _).mono ?_
        rintro e w' ⟨rfl, rfl⟩
        go_wp2_with fail
        go_roundw
        case rel => exact ⟨k + 1, hlt, by go_num, num_eq (by have := HN.out; rw [show ((k + 1 : Nat) : Int) = k + 1 from rfl]; omega), by trivial⟩
        case measure => simp [RowKit.intOf]; omega
      · rw [show leap k = false by simpa using hl] at hlp
        rw [if_neg hl] at hnx
        have HN := Lib.hid hnx
        clear hnx hl
        go_wp2_with fail
        refine (hlp _).mono ?_
        rintro e w' ⟨rfl, rfl⟩
        go_wp2_with fail
        go_roundw
        case rel => exact ⟨k + 1, hlt, by go_num, num_eq (by have := HN.out; rw [show ((k + 1 : Nat) : Int) = k + 1 from rfl]; omega), by trivial⟩
        case measure => simp [RowKit.intOf]; omega
    · obtain rfl : k = y := by omega
      go_wp2_with fail
      go_loopw [7, 9] (fun v i wr => ∃ j : Nat, 1 ≤ j ∧ j ≤ m ∧ i = .int .i64 j ∧ v = .int .i64 (sinceD k j 1 + 60) ∧ w = wr) (fun _ i _ => m - (RowKit.intOf i).toNat)
      case atStart => exact ⟨1, Nat.le_refl _, m1, rfl, rfl, rfl⟩
      case round =>
        obtain ⟨j, j1, jm, rfl, rfl, rfl⟩ := hrel
        have hjb := since_bd k j 1 (by omega) (by omega) (by omega) (by omega) (by omega) (by omega)
        obtain ⟨c0, c1⟩ := hjb
        by_cases hjlt : j < m
        · have hdy := fun W => days_ref k j (by omega) j1 (by omega) W
          have hdb := dim_bd k j (by omega) (by omega)
          obtain ⟨u0, u1⟩ := hdb
          have HN := Lib.hid (month_next k j (by omega) (by omega))
          go_wp2_with fail
          refine (hdy _).mono ?_
          rintro e w' ⟨rfl, rfl⟩
          go_wp2_with fail
          go_roundw
          case rel => exact ⟨j + 1, by omega, hjlt, by go_num, num_eq (by have := HN.out; rw [show ((j + 1 : Nat) : Int) = j + 1 from rfl]; omega), by trivial⟩
          case measure => simp [RowKit.intOf]; omega
        · obtain rfl : j = m := by omega
          have hs : sinceD k j d = sinceD k j 1 + d - 1 := by rw [sinceD_eq, sinceD_eq]; omega
          have HS := Lib.hid hs
          clear hs
          go_wp2_with fail
          go_ret
          exact ⟨ret_int (by have := HS.out; omega), rfl⟩
end Go.Proofs.YtdaadoiedaplaaaDoor
