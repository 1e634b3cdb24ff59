/- The program's Text. Conditions: the table of powers of ten as it is laid. -/
import Derived.Test.YtdaadoiedaplaaaDoorDig
namespace Go.Proofs.YtdaadoiedaplaaaDoor
open Go.RowKit Go.Lib
theorem mon_ge (y m d : Int) (h1 : 1 ≤ m) (h2 : m ≤ 12) (h3 : 1 ≤ d) (h4 : d ≤ dim y m) : (m < 3 → 306 ≤ ahM (mM m) + d - 1) ∧ (3 ≤ m → ahM (mM m) + d - 1 ≤ 305) := by
  have hc : m = 1 ∨ m = 2 ∨ m = 3 ∨ m = 4 ∨ m = 5 ∨ m = 6 ∨ m = 7 ∨ m = 8 ∨ m = 9 ∨ m = 10 ∨ m = 11 ∨ m = 12 := by omega
  rcases hc with rfl | rfl | rfl | rfl | rfl | rfl | rfl | rfl | rfl | rfl | rfl | rfl
  · exact ⟨fun _ => by simp [mM, ahM]; omega, fun h => by omega⟩
  · exact ⟨fun _ => by simp [mM, ahM]; omega, fun h => by omega⟩
  all_goals
    simp [dim] at h4
    exact ⟨fun h => by omega, fun _ => by simp [mM, ahM]; omega⟩
/-- the years of days that may be -/
theorem date_range (n : Int) (h0 : -60 ≤ n) (h1 : n ≤ 3652364) : ∃ y m d : Nat, dateD n = ((y : Int), (m : Int), (d : Int)) ∧ y ≤ 9999 ∧ 1 ≤ m ∧ m ≤ 12 ∧ 1 ≤ d ∧ d ≤ 31 ∧ (d : Int) ≤ dim y m ∧ sinceD y m d = n := by
  obtain ⟨y, m, d, he, m1, m2, d1, d2, hs⟩ := date_spec n
  obtain ⟨t0, t1, _⟩ := day_in y m d m1 m2 d1 d2
  obtain ⟨g1, g2⟩ := mon_ge y m d m1 m2 d1 d2
  have hs2 := hs
  rw [sinceD_eq] at hs
  have hd31 : d ≤ 31 := by
    unfold dim at d2
    split at d2
    · split at d2 <;> omega
    · split at d2 <;> omega
  have a1 : gM (-1) = -366 := by decide
  have a2 : gM 9999 = 3652059 := by decide
  have a3 : gM 10000 = 3652425 := by decide
  have hy0 : 0 ≤ y := by
    rcases Int.lt_or_le y 0 with h | h
    · exfalso
      by_cases hm : m < 3
      · have hY : mY y m = y - 1 := by unfold mY; rw [if_pos hm]
        rw [hY] at hs t1
        have := gM_lt (y - 1) (-1) (by omega)
        omega
      · have hY : mY y m = y := by unfold mY; rw [if_neg hm]
        rw [hY] at hs t1
        have := g2 (by omega)
        have := gM_mono y (-1) (by omega)
        omega
    · exact h
  have hy1 : y ≤ 9999 := by
    rcases Int.lt_or_le 9999 y with h | h
    · exfalso
      by_cases hm : m < 3
      · have hY : mY y m = y - 1 := by unfold mY; rw [if_pos hm]
        rw [hY] at hs t1
        have := gM_mono 9999 (y - 1) (by omega)
        have := g1 hm
        omega
      · have hY : mY y m = y := by unfold mY; rw [if_neg hm]
        rw [hY] at hs t1
        have := gM_mono 10000 y (by omega)
        omega
    · exact h
  have ey : ((y.toNat : Nat) : Int) = y := by omega
  have em : ((m.toNat : Nat) : Int) = m := by omega
  have ed : ((d.toNat : Nat) : Int) = d := by omega
  exact ⟨y.toNat, m.toNat, d.toNat, by rw [ey, em, ed]; exact he, by omega, by omega, by omega, by omega, by omega, by rw [ey, em, ed]; exact d2, by rw [ey, em, ed]; exact hs2⟩
theorem trim_size (s : ByteArray) (c : UInt8) : (⟨(Lib.trimRightB s.data.toList c).toArray⟩ : ByteArray).size ≤ s.size := by
  have h1 : (Lib.trimRightB s.data.toList c).length ≤ s.data.toList.length := by
    unfold Lib.trimRightB
    rw [List.length_reverse]
    exact Nat.le_trans (List.IsSuffix.length_le (List.dropWhile_suffix _)) (by simp)
  show (Lib.trimRightB s.data.toList c).toArray.size ≤ s.data.size
  rw [List.size_toArray]
  rw [Array.length_toList] at h1
  exact h1
/-- a date's and a time's text -/
def headL (y m d t : Nat) : List UInt8 := dg y 4 ++ [45] ++ dg m 2 ++ [45] ++ dg d 2 ++ [84] ++ dg (t / 3600) 2 ++ [58] ++ dg (t / 60 % 60) 2 ++ [58] ++ dg (t % 60) 2
def fracL (n : Nat) : List UInt8 := if 0 < n then [46] ++ Lib.trimRightB (dg n 9) 48 else []
def textL (s n : Int) : List UInt8 :=
  headL (dateD (dayOf s)).1.toNat (dateD (dayOf s)).2.1.toNat (dateD (dayOf s)).2.2.toNat (s % 86400).toNat ++ fracL n.toNat ++ [90]
def TextV (s n : Int) : Value := if okD s n = true then .tuple #[.string ⟨(textL s n).toArray⟩, .int .i64 0] else .tuple #[.string ⟨#[]⟩, .int .i64 120]
set_option maxHeartbeats 4000000 in
set_option maxRecDepth 100000 in
theorem text_any (s n : Int) (w : World) (hP : Pow w) : Calls Tryd.prog 12 #[.agg #[.int .i64 s, .int .i64 n]] w fun e w' => e = .returned (TextV s n) ∧ Below w.heap.size w w' := by
  have hb0 : Below w.heap.size w (w.alloc (.cells #[.int .i64 s, .int .i64 n] 23)) := (Below.refl _ _).alloc (Nat.le_refl _) _
  have hd := fun W => date4_any s n W
  have hV : TextV s n = if okD s n = true then .tuple #[.string ⟨(textL s n).toArray⟩, .int .i64 0] else .tuple #[.string ⟨#[]⟩, .int .i64 120] := rfl
  by_cases h : okD s n = true
  · have hs : 0 ≤ s ∧ s ≤ 315569519999 ∧ 0 ≤ n ∧ n ≤ 999999999 := by
      unfold okD at h
      exact of_decide_eq_true h
    obtain ⟨y, m, d, hdt, y1, m1, m2, d1, d2, _, _⟩ := date_range (dayOf s) (by unfold dayOf; omega) (by unfold dayOf; omega)
    have hDV : DateV s n = .tuple #[.int .i64 y, .int .i64 m, .int .i64 d, .int .i64 0] := by
      unfold DateV
      rw [if_pos h, hdt]
    rw [hDV] at hd
    have hT : textL s n = headL y m d (s % 86400).toNat ++ fracL n.toNat ++ [90] := by
      unfold textL
      rw [hdt]
      simp
    rw [if_pos h, hT] at hV
    obtain ⟨t, ht⟩ : ∃ t : Nat, s % 86400 = t := ⟨(s % 86400).toNat, by omega⟩
    have ht2 : t < 86400 := by omega
    obtain ⟨N, hN⟩ : ∃ N : Nat, n = N := ⟨n.toNat, by omega⟩
    rw [ht, Int.toNat_natCast, hN, Int.toNat_natCast] at hV
    subst hN
    have k1 := fun W hW => digits_any y 4 (by omega) (by omega) (by omega) W hW
    have k2 := fun W hW => digits_any m 2 (by omega) (by omega) (by omega) W hW
    have k3 := fun W hW => digits_any d 2 (by omega) (by omega) (by omega) W hW
    have k4 := fun W hW => digits_any (t / 3600) 2 (by omega) (by omega) (by omega) W hW
    have k5 := fun W hW => digits_any (t / 60 % 60) 2 (by omega) (by omega) (by omega) W hW
    have k6 := fun W hW => digits_any (t % 60) 2 (by omega) (by omega) (by omega) W hW
    have k7 := fun W hW => digits_any N 9 (by omega) (by omega) (by omega) W hW
    obtain ⟨S1, eS1, zS1⟩ : ∃ S : ByteArray, (⟨(dg y 4).toArray⟩ : ByteArray) = S ∧ S.size = 4 := ⟨_, rfl, by simp [ByteArray.size, dg_len]⟩
    rw [eS1] at k1
    obtain ⟨S2, eS2, zS2⟩ : ∃ S : ByteArray, (⟨(dg m 2).toArray⟩ : ByteArray) = S ∧ S.size = 2 := ⟨_, rfl, by simp [ByteArray.size, dg_len]⟩
    rw [eS2] at k2
    obtain ⟨S3, eS3, zS3⟩ : ∃ S : ByteArray, (⟨(dg d 2).toArray⟩ : ByteArray) = S ∧ S.size = 2 := ⟨_, rfl, by simp [ByteArray.size, dg_len]⟩
    rw [eS3] at k3
    obtain ⟨S4, eS4, zS4⟩ : ∃ S : ByteArray, (⟨(dg (t / 3600) 2).toArray⟩ : ByteArray) = S ∧ S.size = 2 := ⟨_, rfl, by simp [ByteArray.size, dg_len]⟩
    rw [eS4] at k4
    obtain ⟨S5, eS5, zS5⟩ : ∃ S : ByteArray, (⟨(dg (t / 60 % 60) 2).toArray⟩ : ByteArray) = S ∧ S.size = 2 := ⟨_, rfl, by simp [ByteArray.size, dg_len]⟩
    rw [eS5] at k5
    obtain ⟨S6, eS6, zS6⟩ : ∃ S : ByteArray, (⟨(dg (t % 60) 2).toArray⟩ : ByteArray) = S ∧ S.size = 2 := ⟨_, rfl, by simp [ByteArray.size, dg_len]⟩
    rw [eS6] at k6
    obtain ⟨S7, eS7, zS7⟩ : ∃ S : ByteArray, (⟨(dg N 9).toArray⟩ : ByteArray) = S ∧ S.size = 9 := ⟨_, rfl, by simp [ByteArray.size, dg_len]⟩
    rw [eS7] at k7
    have ht1 := fun W => Tryd.strings_TrimRight_one S7 48 (by decide) W (by omega)
    obtain ⟨F, eF, zF⟩ : ∃ F : ByteArray, (⟨(Lib.trimRightB S7.data.toList 48).toArray⟩ : ByteArray) = F ∧ F.size ≤ 9 := by
      exact ⟨_, rfl, by have := trim_size S7 48; omega⟩
    rw [eF] at ht1
    have q1 : (t : Int) / 3600 = ((t / 3600 : Nat) : Int) := by omega
    have q2 : (t : Int) / 60 % 60 = ((t / 60 % 60 : Nat) : Int) := by omega
    have q3 : (t : Int) % 60 = ((t % 60 : Nat) : Int) := by omega
    simp only [← q1] at k4
    simp only [← q2] at k5
    simp only [← q3] at k6
    clear q1 q2 q3
    have hH : ((((((((((S1 ++ ⟨#[45]⟩) ++ S2) ++ ⟨#[45]⟩) ++ S3) ++ ⟨#[84]⟩) ++ S4) ++ ⟨#[58]⟩) ++ S5) ++ ⟨#[58]⟩) ++ S6) = ⟨(headL y m d t).toArray⟩ := by
      rw [← eS1, ← eS2, ← eS3, ← eS4, ← eS5, ← eS6]
      simp only [headL, ← app_lists]
    have hF : F = ⟨(Lib.trimRightB (dg N 9) 48).toArray⟩ := by rw [← eF, ← eS7]
    have HV := Lib.hid hV
    have HH := Lib.hid hH
    have HF := Lib.hid hF
    clear hV hT hDV hdt h hH hF eS1 eS2 eS3 eS4 eS5 eS6 eS7 eF
    go_enter Tryd.func12, Tryd.ntmps12
    go_wp2_with fail
    refine (hd _).mono ?_
    rintro e w1 ⟨rfl, hb1⟩
    have c0 : w1.cell? ⟨w.heap.size, 0, none⟩ = some (.int .i64 s) := (hb1.cell (p := ⟨w.heap.size, 0, none⟩) (by simp)).trans (World.cell?_alloc_at _ _ _ _ rfl)
    have c1 : w1.cell? ⟨w.heap.size, 1, none⟩ = some (.int .i64 N) := (hb1.cell (p := ⟨w.heap.size, 1, none⟩) (by simp)).trans (World.cell?_alloc_at _ _ _ _ rfl)
    have hz : w.heap.size < w1.heap.size := by have := hb1.size; simp at this; omega
    have hB := hb0.trans (hb1.mono hb0.size)
    have hP1 := hP.below hB
    clear hd hb1 hb0
    go_wp2_with fail
    refine (k1 _ hP1).mono ?_
    rintro e w2 ⟨rfl, hb⟩
    have hP2 := hP1.below hb
    have hD := hb
    clear hb hP1
    go_wp2_with fail
    refine (k2 _ hP2).mono ?_
    rintro e w3 ⟨rfl, hb⟩
    replace hP2 := hP2.below hb
    replace hD := hD.trans (hb.mono hD.size)
    clear hb
    go_wp2_with fail
    refine (k3 _ hP2).mono ?_
    rintro e w4 ⟨rfl, hb⟩
    replace hP2 := hP2.below hb
    replace hD := hD.trans (hb.mono hD.size)
    clear hb
    go_wp2_with fail
    refine (k4 _ hP2).mono ?_
    rintro e w5 ⟨rfl, hb⟩
    replace hP2 := hP2.below hb
    replace hD := hD.trans (hb.mono hD.size)
    clear hb
    go_wp2_with fail
    refine (k5 _ hP2).mono ?_
    rintro e w6 ⟨rfl, hb⟩
    replace hP2 := hP2.below hb
    replace hD := hD.trans (hb.mono hD.size)
    clear hb
    go_wp2_with fail
    refine (k6 _ hP2).mono ?_
    rintro e w7 ⟨rfl, hb⟩
    replace hP2 := hP2.below hb
    replace hD := hD.trans (hb.mono hD.size)
    clear hb
    obtain ⟨d0, d1'⟩ : w7.cell? ⟨w.heap.size, 0, none⟩ = some (.int .i64 s) ∧ w7.cell? ⟨w.heap.size, 1, none⟩ = some (.int .i64 N) := ⟨(hD.cell (p := ⟨w.heap.size, 0, none⟩) hz).trans c0, (hD.cell (p := ⟨w.heap.size, 1, none⟩) hz).trans c1⟩
    have hB7 := hB.trans (hD.mono hB.size)
    clear c0 c1 hD hB k1 k2 k3 k4 k5 k6 ht
    by_cases hN0 : 0 < N
    · have hN1 : (0 : Int) < N := by omega
      go_wp2_with fail
      refine (k7 _ hP2).mono ?_
      rintro e w8 ⟨rfl, hb⟩
      have hB8 := hB7.trans (hb.mono hB7.size)
      clear hb hB7 k7 d0 d1'
      go_wp2_with fail
      refine (ht1 _).mono ?_
      rintro e w9 ⟨rfl, rfl⟩
      go_wp2
      go_ret2
      refine ⟨?_, hB8⟩
      rw [HV.out]
      have hfin : ((((((((((((S1 ++ ⟨#[45]⟩) ++ S2) ++ ⟨#[45]⟩) ++ S3) ++ ⟨#[84]⟩) ++ S4) ++ ⟨#[58]⟩) ++ S5) ++ ⟨#[58]⟩) ++ S6) ++ ((⟨#[46]⟩ : ByteArray) ++ F)) ++ ⟨#[90]⟩) = ⟨(headL y m d t ++ fracL N ++ [90]).toArray⟩ := by
        rw [HH.out, HF.out, fracL, if_pos hN0]
        simp only [← app_lists]
      rw [← hfin]
      rfl
    · obtain rfl : N = 0 := by omega
      go_wp2
      go_ret2
      refine ⟨?_, hB7⟩
      rw [HV.out]
      have hfin : (((((((((((S1 ++ ⟨#[45]⟩) ++ S2) ++ ⟨#[45]⟩) ++ S3) ++ ⟨#[84]⟩) ++ S4) ++ ⟨#[58]⟩) ++ S5) ++ ⟨#[58]⟩) ++ S6) ++ ⟨#[90]⟩) = ⟨(headL y m d t ++ fracL 0 ++ [90]).toArray⟩ := by
        rw [HH.out, fracL, if_neg (by omega), List.append_nil]
        simp only [← app_lists]
      rw [← hfin]
      rfl
  · have hDV : DateV s n = .tuple #[.int .i64 0, .int .i64 0, .int .i64 0, .int .i64 120] := by
      unfold DateV
      rw [if_neg h]
    rw [hDV] at hd
    rw [if_neg h] at hV
    have HV := Lib.hid hV
    clear hV hDV h
    go_enter Tryd.func12, Tryd.ntmps12
    go_wp2_with fail
    refine (hd _).mono ?_
    rintro e w1 ⟨rfl, hb1⟩
    go_wp2
    go_ret2
    exact ⟨by rw [HV.out]; rfl, hb0.trans (hb1.mono hb0.size)⟩
end Go.Proofs.YtdaadoiedaplaaaDoor
