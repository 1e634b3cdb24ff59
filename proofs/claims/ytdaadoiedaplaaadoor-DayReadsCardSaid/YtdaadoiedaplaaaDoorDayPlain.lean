/- Plain laws of dates: days from 0000-03-01 on and dates tell each other. No program in sight. Conditions: those of each theorem. -/
namespace Go.Proofs.YtdaadoiedaplaaaDoor

/-- the days ahead of a month, in years that begin with March -/
def ahM (m : Nat) : Int := match m with
  | 0 => 0 | 1 => 31 | 2 => 61 | 3 => 92 | 4 => 122 | 5 => 153 | 6 => 184 | 7 => 214 | 8 => 245 | 9 => 275 | 10 => 306 | _ => 337
/-- the month of a day in such a year -/
def moM (n : Int) : Nat :=
  if 337 ≤ n then 11 else if 306 ≤ n then 10 else if 275 ≤ n then 9 else if 245 ≤ n then 8 else if 214 ≤ n then 7 else if 184 ≤ n then 6 else if 153 ≤ n then 5 else if 122 ≤ n then 4 else if 92 ≤ n then 3 else if 61 ≤ n then 2 else if 31 ≤ n then 1 else 0
def leap (y : Int) : Bool := decide (y % 4 = 0 ∧ (y % 100 ≠ 0 ∨ y % 400 = 0))
def dim (y : Int) (m : Int) : Int :=
  if m = 2 then (if leap y = true then 29 else 28) else if m = 4 ∨ m = 6 ∨ m = 9 ∨ m = 11 then 30 else 31
/-- the year, in its 400 years, of a day of these -/
def yoe (n : Int) : Int := (n - n / 1460 + n / 36524 - n / 146096) / 365
def sinceD (y m d : Int) : Int :=
  if m < 3 then 365 * (y - 1) + (y - 1) / 4 - (y - 1) / 100 + (y - 1) / 400 + ahM (m + 9).toNat + d - 1
  else 365 * y + y / 4 - y / 100 + y / 400 + ahM (m - 3).toNat + d - 1
def dateD (n : Int) : Int × Int × Int :=
  let e := n / 146097
  let r := n - e * 146097
  let y := yoe r
  let t := r - (365 * y + y / 4 - y / 100)
  let m := moM t
  if 12 < (m : Int) + 3 then (y + 400 * e + 1, (m : Int) + 3 - 12, t - ahM m + 1) else (y + 400 * e, (m : Int) + 3, t - ahM m + 1)
theorem split_n (n : Int) (h0 : 0 ≤ n) (h1 : n ≤ 146096) : ∃ c q k s : Int, n = 36524 * c + 1461 * q + 365 * k + s ∧ 0 ≤ c ∧ c ≤ 3 ∧ 0 ≤ q ∧ q ≤ 24 ∧ 0 ≤ k ∧ k ≤ 3 ∧ 0 ≤ s ∧ s ≤ 365 ∧ (s = 365 → k = 3 ∧ (q ≤ 23 ∨ c = 3)) := by
  obtain ⟨c, hc1, hc2, hc3, hc4⟩ : ∃ c : Int, 0 ≤ c ∧ c ≤ 3 ∧ 0 ≤ n - 36524 * c ∧ (n - 36524 * c ≤ 36523 ∨ c = 3 ∧ n - 36524 * c ≤ 36524) := by
    by_cases h : 109572 ≤ n
    · exact ⟨3, by omega, by omega, by omega, by omega⟩
    · exact ⟨n / 36524, by omega, by omega, by omega, by omega⟩
  obtain ⟨r, hr⟩ : ∃ r, r = n - 36524 * c := ⟨_, rfl⟩
  rw [← hr] at hc3 hc4
  obtain ⟨t, ht⟩ : ∃ t, t = r - 1461 * (r / 1461) := ⟨_, rfl⟩
  by_cases h : 1095 ≤ t
  · exact ⟨c, r / 1461, 3, t - 1095, by omega, by omega, by omega, by omega, by omega, by omega, by omega, by omega, by omega, by omega⟩
  · exact ⟨c, r / 1461, t / 365, t - 365 * (t / 365), by omega, by omega, by omega, by omega, by omega, by omega, by omega, by omega, by omega, by omega⟩
theorem yoe_of (c q k s : Int) (h1 : 0 ≤ c) (h2 : c ≤ 3) (h3 : 0 ≤ q) (h4 : q ≤ 24) (h5 : 0 ≤ k) (h6 : k ≤ 3) (h7 : 0 ≤ s) (h8 : s ≤ 365) (h9 : s = 365 → k = 3 ∧ (q ≤ 23 ∨ c = 3)) :
    yoe (36524 * c + 1461 * q + 365 * k + s) = 100 * c + 4 * q + k := by
  unfold yoe
  have e2 : (36524 * c + 1461 * q + 365 * k + s) / 36524 - (36524 * c + 1461 * q + 365 * k + s) / 146096 = c := by
    by_cases h : 1461 * q + 365 * k + s ≤ 36523
    · have f1 : (36524 * c + 1461 * q + 365 * k + s) / 36524 = c := by omega
      have f2 : (36524 * c + 1461 * q + 365 * k + s) / 146096 = 0 := by omega
      omega
    · obtain ⟨rfl, rfl, rfl, rfl⟩ : q = 24 ∧ k = 3 ∧ s = 365 ∧ c = 3 := by omega
      decide
  obtain ⟨d, hd, hd2⟩ : ∃ d : Int, (36524 * c + 1461 * q + 365 * k + s) / 1460 = 25 * c + q + d ∧ (d = 0 ∨ d = 1 ∧ 1460 ≤ 24 * c + q + 365 * k + s) ∧ (d = 1 ∨ 24 * c + q + 365 * k + s < 1460) := by
    by_cases h : 24 * c + q + 365 * k + s < 1460
    · exact ⟨0, by omega, by omega⟩
    · exact ⟨1, by omega, by omega⟩
  rw [hd]
  omega
/-- how long a year that begins with March is -/
def lenM (y : Int) : Int := if (y + 1) % 4 = 0 ∧ ((y + 1) % 100 ≠ 0 ∨ (y + 1) % 400 = 0) then 366 else 365
theorem yoe_spec (n : Int) (h0 : 0 ≤ n) (h1 : n ≤ 146096) :
    0 ≤ yoe n ∧ yoe n ≤ 399 ∧ 0 ≤ n - (365 * yoe n + yoe n / 4 - yoe n / 100) ∧ n - (365 * yoe n + yoe n / 4 - yoe n / 100) < lenM (yoe n) := by
  obtain ⟨c, q, k, s, rfl, h1, h2, h3, h4, h5, h6, h7, h8, h9⟩ := split_n n h0 h1
  rw [yoe_of c q k s h1 h2 h3 h4 h5 h6 h7 h8 h9]
  have e : 365 * (100 * c + 4 * q + k) + (100 * c + 4 * q + k) / 4 - (100 * c + 4 * q + k) / 100 = 36524 * c + 1461 * q + 365 * k := by
    have f1 : (100 * c + 4 * q + k) / 4 = 25 * c + q := by omega
    have f2 : (100 * c + 4 * q + k) / 100 = c := by omega
    omega
  rw [e]
  refine ⟨by omega, by omega, by omega, ?_⟩
  unfold lenM
  split <;> omega
theorem moM_spec (t : Int) (h0 : 0 ≤ t) (h1 : t < 366) : (moM t : Int) ≤ 11 ∧ ahM (moM t) ≤ t ∧ (moM t < 11 → t < ahM (moM t + 1)) := by
  unfold moM
  repeat' split
  all_goals (simp only [ahM]; omega)
theorem moM_of (t : Int) (M : Nat) (hM : M ≤ 11) (h0 : ahM M ≤ t) (h1 : M < 11 → t < ahM (M + 1)) : moM t = M := by
  have hc : M = 0 ∨ M = 1 ∨ M = 2 ∨ M = 3 ∨ M = 4 ∨ M = 5 ∨ M = 6 ∨ M = 7 ∨ M = 8 ∨ M = 9 ∨ M = 10 ∨ M = 11 := by omega
  unfold moM
  rcases hc with rfl | rfl | rfl | rfl | rfl | rfl | rfl | rfl | rfl | rfl | rfl | rfl
  · have a : (0 : Int) ≤ t := h0
    have b : t < (31 : Int) := h1 (by decide)
    rw [if_neg (by omega), if_neg (by omega), if_neg (by omega), if_neg (by omega), if_neg (by omega), if_neg (by omega), if_neg (by omega), if_neg (by omega), if_neg (by omega), if_neg (by omega), if_neg (by omega)]
  · have a : (31 : Int) ≤ t := h0
    have b : t < (61 : Int) := h1 (by decide)
    rw [if_neg (by omega), if_neg (by omega), if_neg (by omega), if_neg (by omega), if_neg (by omega), if_neg (by omega), if_neg (by omega), if_neg (by omega), if_neg (by omega), if_neg (by omega), if_pos (by omega)]
  · have a : (61 : Int) ≤ t := h0
    have b : t < (92 : Int) := h1 (by decide)
    rw [if_neg (by omega), if_neg (by omega), if_neg (by omega), if_neg (by omega), if_neg (by omega), if_neg (by omega), if_neg (by omega), if_neg (by omega), if_neg (by omega), if_pos (by omega)]
  · have a : (92 : Int) ≤ t := h0
    have b : t < (122 : Int) := h1 (by decide)
    rw [if_neg (by omega), if_neg (by omega), if_neg (by omega), if_neg (by omega), if_neg (by omega), if_neg (by omega), if_neg (by omega), if_neg (by omega), if_pos (by omega)]
  · have a : (122 : Int) ≤ t := h0
    have b : t < (153 : Int) := h1 (by decide)
    rw [if_neg (by omega), if_neg (by omega), if_neg (by omega), if_neg (by omega), if_neg (by omega), if_neg (by omega), if_neg (by omega), if_pos (by omega)]
  · have a : (153 : Int) ≤ t := h0
    have b : t < (184 : Int) := h1 (by decide)
    rw [if_neg (by omega), if_neg (by omega), if_neg (by omega), if_neg (by omega), if_neg (by omega), if_neg (by omega), if_pos (by omega)]
  · have a : (184 : Int) ≤ t := h0
    have b : t < (214 : Int) := h1 (by decide)
    rw [if_neg (by omega), if_neg (by omega), if_neg (by omega), if_neg (by omega), if_neg (by omega), if_pos (by omega)]
  · have a : (214 : Int) ≤ t := h0
    have b : t < (245 : Int) := h1 (by decide)
    rw [if_neg (by omega), if_neg (by omega), if_neg (by omega), if_neg (by omega), if_pos (by omega)]
  · have a : (245 : Int) ≤ t := h0
    have b : t < (275 : Int) := h1 (by decide)
    rw [if_neg (by omega), if_neg (by omega), if_neg (by omega), if_pos (by omega)]
  · have a : (275 : Int) ≤ t := h0
    have b : t < (306 : Int) := h1 (by decide)
    rw [if_neg (by omega), if_neg (by omega), if_pos (by omega)]
  · have a : (306 : Int) ≤ t := h0
    have b : t < (337 : Int) := h1 (by decide)
    rw [if_neg (by omega), if_pos (by omega)]
  · have a : (337 : Int) ≤ t := h0
    rw [if_pos (by omega)]
/-- the days ahead of a year that begins with March -/
def gM (y : Int) : Int := 365 * y + y / 4 - y / 100 + y / 400
theorem gM_succ (y : Int) : gM (y + 1) = gM y + lenM y := by
  unfold gM lenM
  split <;> omega
theorem gM_mono (y z : Int) (h : y ≤ z) : gM y ≤ gM z := by
  unfold gM
  omega
theorem gM_lt (y z : Int) (h : y < z) : gM y + lenM y ≤ gM z := by
  rw [← gM_succ]
  exact gM_mono _ _ (by omega)
theorem lenM_pos (y : Int) : 365 ≤ lenM y ∧ lenM y ≤ 366 := by
  unfold lenM
  split <;> omega
/-- a date's year that begins with March, and its day of it -/
def mY (y m : Int) : Int := if m < 3 then y - 1 else y
def mM (m : Int) : Nat := if m < 3 then (m + 9).toNat else (m - 3).toNat
theorem sinceD_eq (y m d : Int) : sinceD y m d = gM (mY y m) + (ahM (mM m) + d - 1) := by
  unfold sinceD gM mY mM
  split <;> omega
theorem leap_iff (y : Int) : leap (y + 1) = true ↔ lenM y = 366 := by
  unfold leap lenM
  rw [decide_eq_true_iff]
  split <;> simp_all
theorem leap_not {y : Int} (h : ¬ leap (y + 1) = true) : lenM y = 365 := by
  have := lenM_pos y
  have h2 : lenM y ≠ 366 := fun e => h ((leap_iff y).2 e)
  omega
/-- a date's day of its year is in it -/
theorem day_in (y m d : Int) (h1 : 1 ≤ m) (h2 : m ≤ 12) (h3 : 1 ≤ d) (h4 : d ≤ dim y m) :
    0 ≤ ahM (mM m) + d - 1 ∧ ahM (mM m) + d - 1 < lenM (mY y m) ∧ moM (ahM (mM m) + d - 1) = mM m := by
  have hl := lenM_pos (mY y m)
  unfold dim at h4
  by_cases hm : m = 2
  · subst hm
    have hY : mY y 2 = y - 1 := rfl
    have hM : mM 2 = 11 := rfl
    rw [hY, hM]
    rw [if_pos rfl] at h4
    have e : y - 1 + 1 = y := by omega
    have hlp : d ≤ 28 ∨ (d ≤ 29 ∧ lenM (y - 1) = 366) := by
      by_cases hl : leap y = true
      · rw [if_pos hl] at h4
        exact .inr ⟨h4, (leap_iff (y - 1)).1 (by rw [e]; exact hl)⟩
      · rw [if_neg hl] at h4
        exact .inl h4
    rw [hY] at hl
    simp only [ahM]
    refine ⟨by omega, by omega, ?_⟩
    unfold moM
    rw [if_pos (by omega)]
  · rw [if_neg hm] at h4
    have hc : m = 1 ∨ m = 3 ∨ m = 4 ∨ m = 5 ∨ m = 6 ∨ m = 7 ∨ m = 8 ∨ m = 9 ∨ m = 10 ∨ m = 11 ∨ m = 12 := by omega
    have hk : ∃ M : Nat, mM m = M ∧ M ≤ 10 ∧ ahM M + d - 1 < ahM (M + 1) ∧ 0 ≤ ahM M ∧ ahM (M + 1) ≤ 337 := by
      rcases hc with rfl | rfl | rfl | rfl | rfl | rfl | rfl | rfl | rfl | rfl | rfl
      all_goals
        simp at h4
        refine ⟨_, rfl, by decide, ?_, by decide, by decide⟩
        simp [mM, ahM]
        omega
    obtain ⟨M, hM, hM2, hM3, hM4, hM5⟩ := hk
    rw [hM]
    exact ⟨by omega, by omega, moM_of _ M (by omega) (by omega) (fun _ => hM3)⟩
theorem dateD_of (Y t : Int) (h0 : 0 ≤ t) (h1 : t < lenM Y) :
    dateD (gM Y + t) = if 12 < (moM t : Int) + 3 then (Y + 1, (moM t : Int) + 3 - 12, t - ahM (moM t) + 1) else (Y, (moM t : Int) + 3, t - ahM (moM t) + 1) := by
  obtain ⟨e, he⟩ : ∃ e, e = Y / 400 := ⟨_, rfl⟩
  obtain ⟨c, q, k, hY, c1, c2, c3, c4, c5, c6⟩ : ∃ c q k : Int, Y = 400 * e + (100 * c + 4 * q + k) ∧ 0 ≤ c ∧ c ≤ 3 ∧ 0 ≤ q ∧ q ≤ 24 ∧ 0 ≤ k ∧ k ≤ 3 := by
    obtain ⟨r, hr⟩ : ∃ r, r = Y - 400 * e := ⟨_, rfl⟩
    exact ⟨r / 100, (r - 100 * (r / 100)) / 4, (r - 100 * (r / 100)) - 4 * ((r - 100 * (r / 100)) / 4), by omega, by omega, by omega, by omega, by omega, by omega, by omega⟩
  have f1 : Y / 4 = 100 * e + 25 * c + q := by omega
  have f2 : Y / 100 = 4 * e + c := by omega
  have hg : gM Y = 146097 * e + (36524 * c + 1461 * q + 365 * k) := by unfold gM; omega
  have h9 : t = 365 → k = 3 ∧ (q ≤ 23 ∨ c = 3) := by
    intro ht
    have h366 : lenM Y = 366 := by have := lenM_pos Y; omega
    unfold lenM at h366
    split at h366
    · rename_i hh
      omega
    · omega
  have hl := lenM_pos Y
  have hb : 0 ≤ 36524 * c + 1461 * q + 365 * k + t ∧ 36524 * c + 1461 * q + 365 * k + t ≤ 146096 := by
    by_cases ht : t = 365
    · have := h9 ht
      omega
    · omega
  have hd : (gM Y + t) / 146097 = e := by omega
  have hyo := yoe_of c q k t c1 c2 c3 c4 c5 c6 h0 (by omega) h9
  unfold dateD
  simp only
  rw [hd, show gM Y + t - e * 146097 = 36524 * c + 1461 * q + 365 * k + t by omega, hyo]
  have g1 : (100 * c + 4 * q + k) / 4 = 25 * c + q := by omega
  have g2 : (100 * c + 4 * q + k) / 100 = c := by omega
  rw [show 36524 * c + 1461 * q + 365 * k + t - (365 * (100 * c + 4 * q + k) + (100 * c + 4 * q + k) / 4 - (100 * c + 4 * q + k) / 100) = t by omega]
  rw [show 100 * c + 4 * q + k + 400 * e = Y by omega]
/-- the date of a date's day is that date -/
theorem date_since (y m d : Int) (h1 : 1 ≤ m) (h2 : m ≤ 12) (h3 : 1 ≤ d) (h4 : d ≤ dim y m) : dateD (sinceD y m d) = (y, m, d) := by
  obtain ⟨a1, a2, a3⟩ := day_in y m d h1 h2 h3 h4
  rw [sinceD_eq, dateD_of _ _ a1 a2, a3]
  unfold mM mY
  by_cases h : m < 3
  · rw [if_pos h, if_pos h, if_pos (by omega)]
    refine Prod.ext (by simp) (Prod.ext (by simp; omega) (by simp; omega))
  · rw [if_neg h, if_neg h, if_neg (by omega)]
    refine Prod.ext (by simp) (Prod.ext (by simp; omega) (by simp; omega))
theorem n_split (n : Int) : ∃ Y t : Int, n = gM Y + t ∧ 0 ≤ t ∧ t < lenM Y := by
  obtain ⟨e, he⟩ : ∃ e, e = n / 146097 := ⟨_, rfl⟩
  obtain ⟨c, q, k, s, hn, h1, h2, h3, h4, h5, h6, h7, h8, h9⟩ := split_n (n - 146097 * e) (by omega) (by omega)
  refine ⟨400 * e + (100 * c + 4 * q + k), s, ?_, h7, ?_⟩
  · have f1 : (400 * e + (100 * c + 4 * q + k)) / 4 = 100 * e + 25 * c + q := by omega
    have f2 : (400 * e + (100 * c + 4 * q + k)) / 100 = 4 * e + c := by omega
    have f3 : (400 * e + (100 * c + 4 * q + k)) / 400 = e := by omega
    unfold gM
    omega
  · unfold lenM
    split <;> omega
/-- a day's date is one, and tells that day -/
theorem date_spec (n : Int) : ∃ y m d : Int, dateD n = (y, m, d) ∧ 1 ≤ m ∧ m ≤ 12 ∧ 1 ≤ d ∧ d ≤ dim y m ∧ sinceD y m d = n := by
  obtain ⟨Y, t, rfl, h0, h1⟩ := n_split n
  have hl := lenM_pos Y
  obtain ⟨m1, m2, m3⟩ := moM_spec t h0 (by omega)
  have hlp := leap_iff Y
  rw [dateD_of Y t h0 h1]
  generalize moM t = M at *
  have hM : M = 0 ∨ M = 1 ∨ M = 2 ∨ M = 3 ∨ M = 4 ∨ M = 5 ∨ M = 6 ∨ M = 7 ∨ M = 8 ∨ M = 9 ∨ M = 10 ∨ M = 11 := by omega
  rcases hM with rfl | rfl | rfl | rfl | rfl | rfl | rfl | rfl | rfl | rfl | rfl | rfl
  all_goals
    simp only [ahM, forall_const, Nat.reduceLT, Nat.reduceAdd, Nat.lt_irrefl, false_imp_iff] at m2 m3
  · exact ⟨_, _, _, rfl, by decide, by decide, by simp [ahM] <;> omega, by simp [dim, ahM] <;> omega, by rw [sinceD_eq]; simp [mY, mM, ahM] <;> omega⟩
  · exact ⟨_, _, _, rfl, by decide, by decide, by simp [ahM] <;> omega, by simp [dim, ahM] <;> omega, by rw [sinceD_eq]; simp [mY, mM, ahM] <;> omega⟩
  · exact ⟨_, _, _, rfl, by decide, by decide, by simp [ahM] <;> omega, by simp [dim, ahM] <;> omega, by rw [sinceD_eq]; simp [mY, mM, ahM] <;> omega⟩
  · exact ⟨_, _, _, rfl, by decide, by decide, by simp [ahM] <;> omega, by simp [dim, ahM] <;> omega, by rw [sinceD_eq]; simp [mY, mM, ahM] <;> omega⟩
  · exact ⟨_, _, _, rfl, by decide, by decide, by simp [ahM] <;> omega, by simp [dim, ahM] <;> omega, by rw [sinceD_eq]; simp [mY, mM, ahM] <;> omega⟩
  · exact ⟨_, _, _, rfl, by decide, by decide, by simp [ahM] <;> omega, by simp [dim, ahM] <;> omega, by rw [sinceD_eq]; simp [mY, mM, ahM] <;> omega⟩
  · exact ⟨_, _, _, rfl, by decide, by decide, by simp [ahM] <;> omega, by simp [dim, ahM] <;> omega, by rw [sinceD_eq]; simp [mY, mM, ahM] <;> omega⟩
  · exact ⟨_, _, _, rfl, by decide, by decide, by simp [ahM] <;> omega, by simp [dim, ahM] <;> omega, by rw [sinceD_eq]; simp [mY, mM, ahM] <;> omega⟩
  · exact ⟨_, _, _, rfl, by decide, by decide, by simp [ahM] <;> omega, by simp [dim, ahM] <;> omega, by rw [sinceD_eq]; simp [mY, mM, ahM] <;> omega⟩
  · exact ⟨_, _, _, rfl, by decide, by decide, by simp [ahM] <;> omega, by simp [dim, ahM] <;> omega, by rw [sinceD_eq]; simp [mY, mM, ahM] <;> omega⟩
  · exact ⟨_, _, _, rfl, by decide, by decide, by simp [ahM] <;> omega, by simp [dim, ahM] <;> omega, by rw [sinceD_eq]; simp [mY, mM, ahM] <;> omega⟩
  · refine ⟨_, _, _, rfl, by decide, by decide, by simp [ahM] <;> omega, ?_, by rw [sinceD_eq]; simp [mY, mM, ahM] <;> omega⟩
    by_cases h : leap (Y + 1) = true
    · have := hlp.1 h
      simp [dim, h, ahM]; omega
    · have := leap_not h
      simp [dim, h, ahM]; omega
end Go.Proofs.YtdaadoiedaplaaaDoor
