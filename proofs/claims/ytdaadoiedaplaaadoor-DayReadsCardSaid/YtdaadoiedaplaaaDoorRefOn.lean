/- The reference's On, in the program's own terms. Conditions: a time that may be. -/
import Derived.Test.YtdaadoiedaplaaaDoorRefMay
import Derived.OwnWalk
namespace Go.Proofs.YtdaadoiedaplaaaDoor
open Go.RowKit Go.Lib
theorem year_top (k : Int) (n : Int) (h1 : n ≤ 3652364) (h2 : sinceD (k + 1) 1 1 ≤ n) (k0 : 0 ≤ k) : k + 1 ≤ 9999 := by
  rw [sinceD_eq] at h2
  simp [mY, mM, ahM] at h2
  unfold gM at h2
  omega
set_option maxHeartbeats 4000000 in
set_option maxRecDepth 100000 in
theorem on_ref (s n : Int) (h0 : 0 ≤ s) (h1 : s ≤ 315569519999) (w : World) :
    Calls Tryd.prog 37 #[.agg #[.int .i64 s, .int .i64 n]] w fun e w' => e = .returned (.tuple #[.int .i64 (dateD (dayOf s)).1, .int .i64 (dateD (dayOf s)).2.1, .int .i64 (dateD (dayOf s)).2.2]) ∧ Below w.heap.size w w' := by
  obtain ⟨p0, p1⟩ := dayOf_rng s h0 h1
  obtain ⟨D, hD⟩ : ∃ D, dayOf s = D := ⟨_, rfl⟩
  have hq : s / 86400 = D + 60 := by unfold dayOf at hD; omega
  rw [hD] at p0 p1 ⊢
  obtain ⟨⟨y9, m9, d9⟩, hdd⟩ : ∃ p, dateD D = p := ⟨_, rfl⟩
  rw [hdd]
  dsimp only
  have HDD := Lib.hid hdd
  clear hdd
  have hB : Below w.heap.size w (w.alloc (.cells #[.int .i64 s, .int .i64 n] 23)) := bAl _ _
  have HB := Lib.hid hB
  clear hD hB
  go_enter Tryd.func37, Tryd.ntmps37
  go_wp2_with fail
  rw [hq]
  have s0 : sinceD 0 1 1 = -60 := by kernel_rfl
  go_loopw [5, 6] (fun v i wr => ∃ k : Nat, (k : Int) ≤ 9999 ∧ sinceD k 1 1 ≤ D ∧ i = .int .i64 k ∧ v = .int .i64 (D - sinceD k 1 1) ∧ (w.alloc (.cells #[.int .i64 s, .int .i64 n] 23)) = wr) (fun _ i _ => 10000 - (RowKit.intOf i).toNat)
  case atStart => exact ⟨0, by omega, by rw [show ((0 : Nat) : Int) = 0 from rfl, s0]; omega, rfl, num_eq (by rw [show ((0 : Nat) : Int) = 0 from rfl, s0]; omega), rfl⟩
  case round =>
    obtain ⟨k, hk, hle, rfl, rfl, rfl⟩ := hrel
    obtain ⟨b0, b1⟩ := since_le k (by omega) (by omega)
    have hlp := fun W => leap_ref k (by omega) W
    have hny := year_next k
    have hc : leap k = true ∧ D - sinceD k 1 1 < 365 ∨ leap k = true ∧ D - sinceD k 1 1 = 365 ∨ leap k = true ∧ 366 ≤ D - sinceD k 1 1 ∨ leap k = false ∧ D - sinceD k 1 1 < 365 ∨ leap k = false ∧ D - sinceD k 1 1 = 365 ∨ leap k = false ∧ 366 ≤ D - sinceD k 1 1 := by
      cases leap k
      · simp; omega
      · simp; omega
    rcases hc with ⟨hl, hr⟩ | ⟨hl, hr⟩ | ⟨hl, hr⟩ | ⟨hl, hr⟩ | ⟨hl, hr⟩ | ⟨hl, hr⟩
    · rw [hl] at hlp
      rw [if_pos hl] at hny
      clear hl
      go_wp2_with fail
      go_loopw [5, 7] (fun v i wr => ∃ j : Nat, 1 ≤ j ∧ j ≤ 12 ∧ sinceD k j 1 ≤ D ∧ i = .int .i64 j ∧ v = .int .i64 (D - sinceD k j 1) ∧ (w.alloc (.cells #[.int .i64 s, .int .i64 n] 23)) = wr) (fun _ i _ => 13 - (RowKit.intOf i).toNat)
      case atStart => exact ⟨1, Nat.le_refl _, by omega, by rw [show ((1 : Nat) : Int) = 1 from rfl]; omega, rfl, num_eq (by rw [show ((1 : Nat) : Int) = 1 from rfl] <;> omega), rfl⟩
      case round =>
        obtain ⟨j, j1, j12, hjle, rfl, rfl, rfl⟩ := hrel
        have hdy := fun W => days_ref k j (by omega) j1 j12 W
        obtain ⟨u0, u1⟩ := dim_bd k j (by omega) (by omega)
        obtain ⟨c0, c1⟩ := since_bd k j 1 (by omega) (by omega) (by omega) (by omega) (by omega) (by omega)
        have HY := Lib.hid hny
        by_cases hge : dim k j ≤ D - sinceD k j 1
        · have hj11 : j ≤ 11 := by
            rcases Nat.lt_or_ge j 12 with h | h
            · omega
            · exfalso
              obtain rfl : j = 12 := by omega
              have e1 := next_year k
              have e2 : sinceD k 12 31 = sinceD k 12 1 + 30 := by rw [sinceD_eq, sinceD_eq]; omega
              have e3 : dim k 12 = 31 := by simp [dim]
              rw [show ((12 : Nat) : Int) = 12 from rfl] at hge
              omega
          have HN := Lib.hid (month_next k j (by omega) (by omega))
          go_wp2_with fail
          refine (hdy _).mono ?_
          rintro e w' ⟨rfl, rfl⟩
          go_wp2_with fail
          refine (hdy _).mono ?_
          rintro e w' ⟨rfl, rfl⟩
          go_wp2_with fail
          go_roundw
          case rel => exact ⟨j + 1, by omega, by omega, by have := HN.out; rw [show ((j + 1 : Nat) : Int) = j + 1 from rfl]; omega, by go_num, num_eq (by have := HN.out; rw [show ((j + 1 : Nat) : Int) = j + 1 from rfl]; omega), by trivial⟩
          case measure => simp [RowKit.intOf]; omega
        · have hd := date_since k j (D - sinceD k j 1 + 1) (by omega) (by omega) (by omega) (by omega)
          rw [show sinceD k j (D - sinceD k j 1 + 1) = D by have e9 : sinceD k j (D - sinceD k j 1 + 1) = sinceD k j 1 + (D - sinceD k j 1) := (by rw [sinceD_eq k j (D - sinceD k j 1 + 1), sinceD_eq k j 1]; omega); omega] at hd
          rw [HDD.out] at hd
          simp only [Prod.mk.injEq] at hd
          obtain ⟨rfl, rfl, rfl⟩ := hd
          go_wp2_with fail
          refine (hdy _).mono ?_
          rintro e w' ⟨rfl, rfl⟩
          go_wp2_with fail
          go_ret3
          exact ⟨rfl, HB.out⟩
    · rw [hl] at hlp
      rw [if_pos hl] at hny
      clear hl
      have hr2 : 365 ≤ D - sinceD k 1 1 := by omega
      have hr3 : ¬ 366 ≤ D - sinceD k 1 1 := by omega
      go_wp2_with fail
      refine (hlp _).mono ?_
      rintro e w' ⟨rfl, rfl⟩
      go_wp2_with fail
      go_loopw [5, 7] (fun v i wr => ∃ j : Nat, 1 ≤ j ∧ j ≤ 12 ∧ sinceD k j 1 ≤ D ∧ i = .int .i64 j ∧ v = .int .i64 (D - sinceD k j 1) ∧ (w.alloc (.cells #[.int .i64 s, .int .i64 n] 23)) = wr) (fun _ i _ => 13 - (RowKit.intOf i).toNat)
      case atStart => exact ⟨1, Nat.le_refl _, by omega, by rw [show ((1 : Nat) : Int) = 1 from rfl]; omega, rfl, num_eq (by rw [show ((1 : Nat) : Int) = 1 from rfl] <;> omega), rfl⟩
      case round =>
        obtain ⟨j, j1, j12, hjle, rfl, rfl, rfl⟩ := hrel
        have hdy := fun W => days_ref k j (by omega) j1 j12 W
        obtain ⟨u0, u1⟩ := dim_bd k j (by omega) (by omega)
        obtain ⟨c0, c1⟩ := since_bd k j 1 (by omega) (by omega) (by omega) (by omega) (by omega) (by omega)
        have HY := Lib.hid hny
        by_cases hge : dim k j ≤ D - sinceD k j 1
        · have hj11 : j ≤ 11 := by
            rcases Nat.lt_or_ge j 12 with h | h
            · omega
            · exfalso
              obtain rfl : j = 12 := by omega
              have e1 := next_year k
              have e2 : sinceD k 12 31 = sinceD k 12 1 + 30 := by rw [sinceD_eq, sinceD_eq]; omega
              have e3 : dim k 12 = 31 := by simp [dim]
              rw [show ((12 : Nat) : Int) = 12 from rfl] at hge
              omega
          have HN := Lib.hid (month_next k j (by omega) (by omega))
          go_wp2_with fail
          refine (hdy _).mono ?_
          rintro e w' ⟨rfl, rfl⟩
          go_wp2_with fail
          refine (hdy _).mono ?_
          rintro e w' ⟨rfl, rfl⟩
          go_wp2_with fail
          go_roundw
          case rel => exact ⟨j + 1, by omega, by omega, by have := HN.out; rw [show ((j + 1 : Nat) : Int) = j + 1 from rfl]; omega, by go_num, num_eq (by have := HN.out; rw [show ((j + 1 : Nat) : Int) = j + 1 from rfl]; omega), by trivial⟩
          case measure => simp [RowKit.intOf]; omega
        · have hd := date_since k j (D - sinceD k j 1 + 1) (by omega) (by omega) (by omega) (by omega)
          rw [show sinceD k j (D - sinceD k j 1 + 1) = D by have e9 : sinceD k j (D - sinceD k j 1 + 1) = sinceD k j 1 + (D - sinceD k j 1) := (by rw [sinceD_eq k j (D - sinceD k j 1 + 1), sinceD_eq k j 1]; omega); omega] at hd
          rw [HDD.out] at hd
          simp only [Prod.mk.injEq] at hd
          obtain ⟨rfl, rfl, rfl⟩ := hd
          go_wp2_with fail
          refine (hdy _).mono ?_
          rintro e w' ⟨rfl, rfl⟩
          go_wp2_with fail
          go_ret3
          exact ⟨rfl, HB.out⟩
    · rw [hl] at hlp
      rw [if_pos hl] at hny
      clear hl
      have hr2 : 365 ≤ D - sinceD k 1 1 := by omega
      go_wp2_with fail
      refine (hlp _).mono ?_
      rintro e w' ⟨rfl, rfl⟩
      go_wp2_with fail
      go_roundw
      case rel => exact ⟨k + 1, year_top k D p1 (by omega) (by omega), by rw [show ((k + 1 : Nat) : Int) = k + 1 from rfl]; omega, by go_num, num_eq (by rw [show ((k + 1 : Nat) : Int) = k + 1 from rfl]; omega), by trivial⟩
      case measure => simp [RowKit.intOf]; omega
    · rw [hl] at hlp
      rw [if_neg (by rw [hl]; decide)] at hny
      clear hl
      go_wp2_with fail
      go_loopw [5, 7] (fun v i wr => ∃ j : Nat, 1 ≤ j ∧ j ≤ 12 ∧ sinceD k j 1 ≤ D ∧ i = .int .i64 j ∧ v = .int .i64 (D - sinceD k j 1) ∧ (w.alloc (.cells #[.int .i64 s, .int .i64 n] 23)) = wr) (fun _ i _ => 13 - (RowKit.intOf i).toNat)
      case atStart => exact ⟨1, Nat.le_refl _, by omega, by rw [show ((1 : Nat) : Int) = 1 from rfl]; omega, rfl, num_eq (by rw [show ((1 : Nat) : Int) = 1 from rfl] <;> omega), rfl⟩
      case round =>
        obtain ⟨j, j1, j12, hjle, rfl, rfl, rfl⟩ := hrel
        have hdy := fun W => days_ref k j (by omega) j1 j12 W
        obtain ⟨u0, u1⟩ := dim_bd k j (by omega) (by omega)
        obtain ⟨c0, c1⟩ := since_bd k j 1 (by omega) (by omega) (by omega) (by omega) (by omega) (by omega)
        have HY := Lib.hid hny
        by_cases hge : dim k j ≤ D - sinceD k j 1
        · have hj11 : j ≤ 11 := by
            rcases Nat.lt_or_ge j 12 with h | h
            · omega
            · exfalso
              obtain rfl : j = 12 := by omega
              have e1 := next_year k
              have e2 : sinceD k 12 31 = sinceD k 12 1 + 30 := by rw [sinceD_eq, sinceD_eq]; omega
              have e3 : dim k 12 = 31 := by simp [dim]
              rw [show ((12 : Nat) : Int) = 12 from rfl] at hge
              omega
          have HN := Lib.hid (month_next k j (by omega) (by omega))
          go_wp2_with fail
          refine (hdy _).mono ?_
          rintro e w' ⟨rfl, rfl⟩
          go_wp2_with fail
          refine (hdy _).mono ?_
          rintro e w' ⟨rfl, rfl⟩
          go_wp2_with fail
          go_roundw
          case rel => exact ⟨j + 1, by omega, by omega, by have := HN.out; rw [show ((j + 1 : Nat) : Int) = j + 1 from rfl]; omega, by go_num, num_eq (by have := HN.out; rw [show ((j + 1 : Nat) : Int) = j + 1 from rfl]; omega), by trivial⟩
          case measure => simp [RowKit.intOf]; omega
        · have hd := date_since k j (D - sinceD k j 1 + 1) (by omega) (by omega) (by omega) (by omega)
          rw [show sinceD k j (D - sinceD k j 1 + 1) = D by have e9 : sinceD k j (D - sinceD k j 1 + 1) = sinceD k j 1 + (D - sinceD k j 1) := (by rw [sinceD_eq k j (D - sinceD k j 1 + 1), sinceD_eq k j 1]; omega); omega] at hd
          rw [HDD.out] at hd
          simp only [Prod.mk.injEq] at hd
          obtain ⟨rfl, rfl, rfl⟩ := hd
          go_wp2_with fail
          refine (hdy _).mono ?_
          rintro e w' ⟨rfl, rfl⟩
          go_wp2_with fail
          go_ret3
          exact ⟨rfl, HB.out⟩
    · rw [hl] at hlp
      rw [if_neg (by rw [hl]; decide)] at hny
      clear hl
      have hr2 : 365 ≤ D - sinceD k 1 1 := by omega
      have hr3 : ¬ 366 ≤ D - sinceD k 1 1 := by omega
      go_wp2_with fail
      refine (hlp _).mono ?_
      rintro e w' ⟨rfl, rfl⟩
      go_wp2_with fail
      refine (hlp _).mono ?_
      rintro e w' ⟨rfl, rfl⟩
      go_wp2_with fail
      go_roundw
      case rel => exact ⟨k + 1, year_top k D p1 (by omega) (by omega), by rw [show ((k + 1 : Nat) : Int) = k + 1 from rfl]; omega, by go_num, num_eq (by rw [show ((k + 1 : Nat) : Int) = k + 1 from rfl]; omega), by trivial⟩
      case measure => simp [RowKit.intOf]; omega
    · rw [hl] at hlp
      rw [if_neg (by rw [hl]; decide)] at hny
      clear hl
      have hr2 : 365 ≤ D - sinceD k 1 1 := by omega
      go_wp2_with fail
      refine (hlp _).mono ?_
      rintro e w' ⟨rfl, rfl⟩
      go_wp2_with fail
      go_roundw
      case rel => exact ⟨k + 1, year_top k D p1 (by omega) (by omega), by rw [show ((k + 1 : Nat) : Int) = k + 1 from rfl]; omega, by go_num, num_eq (by rw [show ((k + 1 : Nat) : Int) = k + 1 from rfl]; omega), by trivial⟩
      case measure => simp [RowKit.intOf]; omega
end Go.Proofs.YtdaadoiedaplaaaDoor
