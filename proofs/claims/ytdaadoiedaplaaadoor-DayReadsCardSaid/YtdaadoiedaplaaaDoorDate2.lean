/- Contracts of the program's date, Check, Date. Conditions: those of each theorem. -/
import Derived.Test.YtdaadoiedaplaaaDoorDate
namespace Go.Proofs.YtdaadoiedaplaaaDoor
open Go.RowKit
theorem ahM_mono (t : Int) (k : Nat) (hk : k ≤ 11) (h : t < ahM k) : ∀ j, k ≤ j → j ≤ 11 → t < ahM j := by
  intro j h1 h2
  have hc : j = 0 ∨ j = 1 ∨ j = 2 ∨ j = 3 ∨ j = 4 ∨ j = 5 ∨ j = 6 ∨ j = 7 ∨ j = 8 ∨ j = 9 ∨ j = 10 ∨ j = 11 := by omega
  have hd : k = 0 ∨ k = 1 ∨ k = 2 ∨ k = 3 ∨ k = 4 ∨ k = 5 ∨ k = 6 ∨ k = 7 ∨ k = 8 ∨ k = 9 ∨ k = 10 ∨ k = 11 := by omega
  have e : ahM k ≤ ahM j := by
    rcases hc with rfl | rfl | rfl | rfl | rfl | rfl | rfl | rfl | rfl | rfl | rfl | rfl <;>
    rcases hd with rfl | rfl | rfl | rfl | rfl | rfl | rfl | rfl | rfl | rfl | rfl | rfl <;> first | decide | omega
  omega
theorem dateD_parts (n e y t : Int) (he : n / 146097 = e) (hy : (n - e * 146097 - (n - e * 146097) / 1460 + (n - e * 146097) / 36524 - (n - e * 146097) / 146096) / 365 = y) (ht : n - e * 146097 - (365 * y + y / 4 - y / 100) = t) :
    dateD n = if 12 < (moM t : Int) + 3 then (y + 400 * e + 1, (moM t : Int) + 3 - 12, t - ahM (moM t) + 1) else (y + 400 * e, (moM t : Int) + 3, t - ahM (moM t) + 1) := by
  subst he hy ht
  rfl
set_option maxRecDepth 100000 in
set_option maxHeartbeats 2000000 in
theorem date_any (n : Int) (w : World) (n0 : -100 ≤ n) (n1 : n ≤ 4000000) :
    Calls Tryd.prog 27 #[.int .i64 n] w fun e w' => e = .returned (.tuple #[.int .i64 (dateD n).1, .int .i64 (dateD n).2.1, .int .i64 (dateD n).2.2]) ∧ w = w' := by
  have hf := fun w => floor_any n 146097 (by omega) (by omega) (by omega) w
  obtain ⟨e, he⟩ : ∃ e, n / 146097 = e := ⟨_, rfl⟩
  have he1 : -1 ≤ e ∧ e ≤ 100 := by omega
  obtain ⟨r, hr⟩ : ∃ r, n - e * 146097 = r := ⟨_, rfl⟩
  have hr1 : 0 ≤ r ∧ r ≤ 146096 := by omega
  obtain ⟨y, hy⟩ : ∃ y, (r - r / 1460 + r / 36524 - r / 146096) / 365 = y := ⟨_, rfl⟩
  have hys := yoe_spec r hr1.1 hr1.2
  have hy2 : yoe r = y := hy
  rw [hy2] at hys
  obtain ⟨y1, y2, y3, y4⟩ := hys
  have hl := lenM_pos y
  obtain ⟨t, ht⟩ : ∃ t, r - (365 * y + y / 4 - y / 100) = t := ⟨_, rfl⟩
  rw [ht] at y3 y4
  have ht2 : t < 366 := by omega
  have hD := dateD_parts n e y t he (by rw [hr]; exact hy) (by rw [hr]; exact ht)
  obtain ⟨m1, m2, m3⟩ := moM_spec t y3 ht2
  have hmo : ∀ k : Nat, k ≤ 11 → ahM k ≤ t → (∀ j, k < j → j ≤ 11 → t < ahM j) → moM t = k := fun k hk h1 h2 => moM_of t k hk h1 (fun h => h2 (k + 1) (by omega) (by omega))
  rw [he] at hf
  have hya : (r - r / 1460 + r / 36524 - r / 146096) / 365 = y := hy
  have r1 : 0 ≤ r / 1460 ∧ r / 1460 ≤ 101 := by omega
  have r2 : 0 ≤ r / 36524 ∧ r / 36524 ≤ 4 := by omega
  have r3 : 0 ≤ r / 146096 ∧ r / 146096 ≤ 1 := by omega
  have r4 : 0 ≤ r - r / 1460 + r / 36524 - r / 146096 := by omega
  have y5 : 0 ≤ y / 4 ∧ y / 4 ≤ 100 := by omega
  have y6 : 0 ≤ y / 100 ∧ y / 100 ≤ 4 := by omega
  have HD := Lib.hid hD
  have HMO := Lib.hid hmo
  have HT := Lib.hid ht
  clear hD hmo hy2 m1 m2 m3 y4 hl he hy ht
  go_enter Tryd.func27, Tryd.ntmps27
  go_wp2_with fail
  refine (hf _).mono ?_
  rintro e' w' ⟨rfl, rfl⟩
  clear hf
  go_wp2
  rw [hya, HT.out]
  clear hya hr r1 r2 r3 r4
  go_loop [3] (fun i => ∃ k : Nat, k ≤ 11 ∧ i = .int .i64 k ∧ (∀ j, k < j → j ≤ 11 → t < ahM j)) (fun i => (intOf i).toNat)
  case atStart => exact ⟨11, Nat.le_refl _, rfl, fun j h1 h2 => by omega⟩
  case round =>
    obtain ⟨k, hk, rfl, hj⟩ := hrel
    have ha := ahead_any k hk
    have hb := ahM_bd k
    have HJ := Lib.hid hj
    clear hj
    by_cases hlt : t < ahM k
    · have hk0 : 1 ≤ k := by
        rcases Nat.eq_zero_or_pos k with h | h
        · subst h
          have : ahM 0 = 0 := rfl
          omega
        · exact h
      generalize hK : ahM k = K at *
      have HK := Lib.hid hK
      clear hK
      go_wp2_with fail
      refine (ha _).mono ?_
      rintro e' w' ⟨rfl, rfl⟩
      go_wp2
      go_round
      case rel =>
        refine ⟨k - 1, by omega, by go_num, fun j h1 h2 => ?_⟩
        rcases Nat.lt_or_ge k j with h3 | h3
        · exact HJ.out j h3 h2
        · obtain rfl : j = k := by omega
          rw [HK.out]; exact hlt
      case measure => simp [intOf]; omega
    · have hmo := HMO.out k hk (by omega) HJ.out
      have hD := HD.out
      rw [hmo] at hD
      have HD2 := Lib.hid hD
      clear hD hmo HD HMO HJ HT
      generalize hK : ahM k = K at *
      clear hK
      by_cases h12 : 12 < (k : Int) + 3
      · go_wp2_with fail
        refine (ha _).mono ?_
        rintro e' w' ⟨rfl, rfl⟩
        go_wp2_with fail
        refine (ha _).mono ?_
        rintro e' w' ⟨rfl, rfl⟩
        go_wp2
        go_ret3
        rw [HD2.out, if_pos h12]
        exact ⟨rfl, rfl⟩
      · go_wp2_with fail
        refine (ha _).mono ?_
        rintro e' w' ⟨rfl, rfl⟩
        go_wp2_with fail
        refine (ha _).mono ?_
        rintro e' w' ⟨rfl, rfl⟩
        go_wp2
        go_ret3
        rw [HD2.out, if_neg (by omega)]
        exact ⟨rfl, rfl⟩
/-- may one be? -/
def okD (s n : Int) : Bool := decide (0 ≤ s ∧ s ≤ 315569519999 ∧ 0 ≤ n ∧ n ≤ 999999999)
def errD (s n : Int) : Int := if okD s n = true then 0 else 120
theorem check_any (s n : Int) (w : World) : Calls Tryd.prog 16 #[.agg #[.int .i64 s, .int .i64 n]] w fun e w' => e = .returned (.int .i64 (errD s n)) ∧ Below w.heap.size w w' := by
  have hb : Below w.heap.size w (w.alloc (.cells #[.int .i64 s, .int .i64 n] 23)) := (Below.refl _ _).alloc (Nat.le_refl _) _
  by_cases h : 0 ≤ s ∧ s ≤ 315569519999 ∧ 0 ≤ n ∧ n ≤ 999999999
  · have hE : errD s n = 0 := by unfold errD okD; rw [if_pos (by simpa using h)]
    obtain ⟨h1, h2, h3, h4⟩ := h
    have HE := Lib.hid hE
    clear hE
    go_enter Tryd.func16, Tryd.ntmps16
    go_wp2
    go_ret
    exact ⟨ret_int HE.out.symm, hb⟩
  · have hE : errD s n = 120 := by unfold errD okD; rw [if_neg (by simpa using h)]
    have HE := Lib.hid hE
    have HH := Lib.hid h
    clear hE h
    go_enter Tryd.func16, Tryd.ntmps16
    go_wp2
    all_goals first
      | (go_ret; exact ⟨ret_int HE.out.symm, hb⟩)
      | (exfalso; have := HH.out; omega)
def dayOf (s : Int) : Int := s / 86400 + -60
def DateV (s n : Int) : Value := if okD s n = true then .tuple #[.int .i64 (dateD (dayOf s)).1, .int .i64 (dateD (dayOf s)).2.1, .int .i64 (dateD (dayOf s)).2.2, .int .i64 0] else .tuple #[.int .i64 0, .int .i64 0, .int .i64 0, .int .i64 120]
set_option maxHeartbeats 1000000 in
theorem date4_any (s n : Int) (w : World) : Calls Tryd.prog 14 #[.agg #[.int .i64 s, .int .i64 n]] w fun e w' => e = .returned (DateV s n) ∧ Below w.heap.size w w' := by
  have hb0 : Below w.heap.size w (w.alloc (.cells #[.int .i64 s, .int .i64 n] 23)) := (Below.refl _ _).alloc (Nat.le_refl _) _
  have hc := fun W => check_any s n W
  have hV : DateV s n = if okD s n = true then .tuple #[.int .i64 (dateD (dayOf s)).1, .int .i64 (dateD (dayOf s)).2.1, .int .i64 (dateD (dayOf s)).2.2, .int .i64 0] else .tuple #[.int .i64 0, .int .i64 0, .int .i64 0, .int .i64 120] := rfl
  by_cases h : okD s n = true
  · have hE : errD s n = 0 := by unfold errD; rw [if_pos h]
    have hs : 0 ≤ s ∧ s ≤ 315569519999 := by
      unfold okD at h
      have := of_decide_eq_true h
      omega
    rw [if_pos h] at hV
    have hdv : dayOf s = s / 86400 + -60 := rfl
    have hd := fun W => date_any (dayOf s) W (by unfold dayOf; omega) (by unfold dayOf; omega)
    have hq : 0 ≤ s / 86400 ∧ s / 86400 ≤ 3652424 := by omega
    rw [hdv] at hd hV
    rw [hE] at hc
    generalize dateD (s / 86400 + -60) = r at *
    have HV := Lib.hid hV
    clear hV hE h hdv
    go_enter Tryd.func14, Tryd.ntmps14
    go_wp2_with fail
    refine (hc _).mono ?_
    rintro e w1 ⟨rfl, hb1⟩
    have hcell : w1.cell? ⟨w.heap.size, 0, none⟩ = some (.int .i64 s) := (hb1.cell (p := ⟨w.heap.size, 0, none⟩) (by simp)).trans (World.cell?_alloc_at _ _ _ _ rfl)
    have hB := hb0.trans (hb1.mono hb0.size)
    clear hc hb1 hb0
    go_wp2_with fail
    refine (hd _).mono ?_
    rintro e w' ⟨rfl, rfl⟩
    go_wp2
    refine bodyPost_ret (v := .tuple #[.int .i64 r.1, .int .i64 r.2.1, .int .i64 r.2.2, .int .i64 0]) (by simp [results, Tryd.results14, go_sem]) rfl ⟨by rw [HV.out], hB⟩
  · have hE : errD s n = 120 := by unfold errD; rw [if_neg h]
    rw [if_neg h] at hV
    rw [hE] at hc
    have HV := Lib.hid hV
    clear hV hE h
    go_enter Tryd.func14, Tryd.ntmps14
    go_wp2_with fail
    refine (hc _).mono ?_
    rintro e w1 ⟨rfl, hb1⟩
    go_wp2
    refine bodyPost_ret (v := .tuple #[.int .i64 0, .int .i64 0, .int .i64 0, .int .i64 120]) (by simp [results, Tryd.results14, go_sem]) rfl ⟨by rw [HV.out], hb0.trans (hb1.mono hb0.size)⟩
end Go.Proofs.YtdaadoiedaplaaaDoor
