/- The reference's Of and Text, in the program's own terms. Conditions: those of each theorem. -/
import Derived.Test.YtdaadoiedaplaaaDoorRefDig
namespace Go.Proofs.YtdaadoiedaplaaaDoor
open Go.RowKit Go.Lib
theorem dg_getD (n m : Nat) (h : ∀ c ∈ dg n m, c = 48) (hn : n < 10 ^ m) : n = 0 := by
  induction m generalizing n with
  | zero => simp at hn; omega
  | succ m ih =>
    rw [dg] at h
    have h1 := ih (n / 10) (fun c hc => h c (List.mem_append_left _ hc)) (by rw [Nat.pow_succ] at hn; exact Nat.div_lt_of_lt_mul (by rw [Nat.mul_comm]; exact hn))
    have h2 := h (UInt8.ofNat (48 + n % 10)) (by simp)
    have h3 : n % 10 = 0 := by
      have e := congrArg UInt8.toNat h2
      rw [u8_48 _ (by omega)] at e
      have : (48 : UInt8).toNat = 48 := rfl
      omega
    omega
theorem trim_nil (l : List UInt8) (c : UInt8) (h : Lib.trimRightB l c = []) : ∀ b ∈ l, b = c := by
  unfold Lib.trimRightB at h
  rw [List.reverse_eq_nil_iff] at h
  intro b hb
  have h2 : ∀ (l : List UInt8), l.dropWhile (fun x => x == c) = [] → ∀ b ∈ l, b = c := by
    intro l
    induction l with
    | nil => intro _ b hb; cases hb
    | cons a l ih =>
      intro h b hb
      by_cases ha : (a == c) = true
      · rw [List.dropWhile_cons_of_pos (p := fun x => x == c) ha] at h
        rcases List.mem_cons.1 hb with rfl | hb
        · exact by simpa using ha
        · exact ih h b hb
      · rw [List.dropWhile_cons_of_neg (p := fun x => x == c) ha] at h
        cases h
  exact h2 _ h b (by simpa using hb)
theorem frac_tr (N : Nat) (h : N < 1000000000) : fracL N = if Lib.trimRightB (dg N 9) 48 = [] then [] else [46] ++ Lib.trimRightB (dg N 9) 48 := by
  unfold fracL
  by_cases h0 : 0 < N
  · rw [if_pos h0, if_neg]
    intro e
    have := dg_getD N 9 (trim_nil _ _ e) (by omega)
    omega
  · obtain rfl : N = 0 := by omega
    rw [if_neg h0, if_pos (by decide)]
theorem str_ext {F : ByteArray} {L : List UInt8} (h : F.data.toList = L) : F = ⟨L.toArray⟩ := by
  cases F; congr; subst h; simp
/-- the fraction's digits, trimmed so far -/
def TrI (N : Nat) (F : ByteArray) : Prop := F.data.toList = (dg N 9).take F.size ∧ ∀ (j : Nat) (b : UInt8), F.size ≤ j → (dg N 9)[j]? = some b → b = 48
theorem ext_size (F : ByteArray) (k : Nat) (h : k ≤ F.size) : (F.extract 0 k).size = k := by
  rw [ByteArray.size_extract]; omega
theorem ext_list (F : ByteArray) (k : Nat) : (F.extract 0 k).data.toList = F.data.toList.take k := by
  rw [ByteArray.data_extract]; simp
theorem TrI.get {N : Nat} {F : ByteArray} (h : TrI N F) (k : Nat) (hk : k < F.size) : (dg N 9)[k]? = some F[k] := by
  have h1 : F.data.toList[k]? = some F[k] := by
    rw [List.getElem?_eq_getElem (by rw [ba_len]; exact hk)]; simp; rfl
  rw [h.1, List.getElem?_take_of_lt hk] at h1
  exact h1
theorem TrI.step {N : Nat} {F : ByteArray} (h : TrI N F) (k : Nat) (hk : F.size = k + 1) (hb : (F[k]'(by omega)).toNat = 48) : TrI N (F.extract 0 k) := by
  refine ⟨?_, ?_⟩
  · rw [ext_list, h.1, List.take_take, ext_size F k (by omega), Nat.min_eq_left (by omega)]
  · intro j b hj hjb
    rw [ext_size F k (by omega)] at hj
    rcases Nat.lt_or_ge k j with h1 | h1
    · exact h.2 j b (by omega) hjb
    · obtain rfl : j = k := by omega
      rw [h.get j (by omega)] at hjb
      obtain rfl := Option.some.inj hjb
      exact UInt8.toNat_inj.1 hb
theorem TrI.end0 {N : Nat} {F : ByteArray} (h : TrI N F) (h0 : F.size = 0) : Lib.trimRightB (dg N 9) 48 = [] := by
  rw [Lib.trimRightB_take (dg N 9) 48 0 (Nat.zero_le _) (fun j b _ hb => h.2 j b (by omega) hb) (fun b h1 _ => by omega)]
  rfl
theorem TrI.end1 {N : Nat} {F : ByteArray} (h : TrI N F) (k : Nat) (h9 : F.size ≤ 9) (hk : F.size = k + 1) (hb : (F[k]'(by omega)).toNat ≠ 48) : Lib.trimRightB (dg N 9) 48 = F.data.toList := by
  rw [Lib.trimRightB_take (dg N 9) 48 F.size (by rw [dg_len]; omega) (fun j b h1 hb => h.2 j b h1 hb) (fun b _ h2 e => ?_), ← h.1]
  rw [show F.size - 1 = k by omega, h.get k (by omega)] at h2
  obtain rfl := Option.some.inj h2
  exact hb (by rw [e]; rfl)
theorem TrI.start {N : Nat} {F : ByteArray} (h : F.data.toList = dg N 9) (h9 : F.size = 9) : TrI N F := by
  refine ⟨by rw [h, h9, List.take_of_length_le (by rw [dg_len]; omega)], fun j b hj hb => ?_⟩
  rw [List.getElem?_eq_none (by rw [dg_len]; omega)] at hb
  cases hb
set_option maxHeartbeats 4000000 in
set_option maxRecDepth 100000 in
theorem of_ref (s n : Int) (h : okD s n = true) (w : World) : Calls Tryd.prog 36 #[.agg #[.int .i64 s, .int .i64 n]] w fun e w' => e = .returned (.string ⟨(textL s n).toArray⟩) ∧ Below w.heap.size w w' := by
  have hb0 : Below w.heap.size w (w.alloc (.cells #[.int .i64 s, .int .i64 n] 23)) := bAl _ _
  have hs : 0 ≤ s ∧ s ≤ 315569519999 ∧ 0 ≤ n ∧ n ≤ 999999999 := by
    unfold okD at h
    exact of_decide_eq_true h
  obtain ⟨y, m, d, hdt, y1, m1, m2, d1, d2, _, _⟩ := date_range (dayOf s) (by unfold dayOf; omega) (by unfold dayOf; omega)
  have ho := fun W => on_ref s n (by omega) (by omega) W
  rw [hdt] at ho
  dsimp only at ho
  have hT : textL s n = headL y m d (s % 86400).toNat ++ fracL n.toNat ++ [90] := by
    unfold textL
    rw [hdt]
    simp
  obtain ⟨t, ht⟩ : ∃ t : Nat, s % 86400 = t := ⟨(s % 86400).toNat, by omega⟩
  have ht2 : t < 86400 := by omega
  obtain ⟨N, hN⟩ : ∃ N : Nat, n = N := ⟨n.toNat, by omega⟩
  rw [ht, Int.toNat_natCast, hN, Int.toNat_natCast] at hT
  subst hN
  have hNb : N < 1000000000 := by omega
  have k1 := fun W => digits_ref y 4 (by omega) (by omega) W
  have k2 := fun W => digits_ref m 2 (by omega) (by omega) W
  have k3 := fun W => digits_ref d 2 (by omega) (by omega) W
  have k4 := fun W => digits_ref (t / 3600) 2 (by omega) (by omega) W
  have k5 := fun W => digits_ref (t / 60 % 60) 2 (by omega) (by omega) W
  have k6 := fun W => digits_ref (t % 60) 2 (by omega) (by omega) W
  have k7 := fun W => digits_ref N 9 (by omega) (by omega) W
  obtain ⟨S1, eS1, zS1⟩ : ∃ S : ByteArray, (⟨(dg y 4).toArray⟩ : ByteArray) = S ∧ S.size = 4 := ⟨_, rfl, by simp [ByteArray.size, dg_len]⟩
  rw [eS1] at k1
  obtain ⟨S2, eS2, zS2⟩ : ∃ S : ByteArray, (⟨(dg m 2).toArray⟩ : ByteArray) = S ∧ S.size = 2 := ⟨_, rfl, by simp [ByteArray.size, dg_len]⟩
  rw [eS2] at k2
  obtain ⟨S3, eS3, zS3⟩ : ∃ S : ByteArray, (⟨(dg d 2).toArray⟩ : ByteArray) = S ∧ S.size = 2 := ⟨_, rfl, by simp [ByteArray.size, dg_len]⟩
  rw [eS3] at k3
  obtain ⟨S4, eS4, zS4⟩ : ∃ S : ByteArray, (⟨(dg (t / 3600) 2).toArray⟩ : ByteArray) = S ∧ S.size = 2 := ⟨_, rfl, by simp [ByteArray.size, dg_len]⟩
  rw [eS4] at k4
  obtain ⟨S5, eS5, zS5⟩ : ∃ S : ByteArray, (⟨(dg (t / 60 % 60) 2).toArray⟩ : ByteArray) = S ∧ S.size = 2 := ⟨_, rfl, by simp [ByteArray.size, dg_len]⟩
  rw [eS5] at k5
  obtain ⟨S6, eS6, zS6⟩ : ∃ S : ByteArray, (⟨(dg (t % 60) 2).toArray⟩ : ByteArray) = S ∧ S.size = 2 := ⟨_, rfl, by simp [ByteArray.size, dg_len]⟩
  rw [eS6] at k6
  obtain ⟨S7, eS7, zS7⟩ : ∃ S : ByteArray, (⟨(dg N 9).toArray⟩ : ByteArray) = S ∧ S.size = 9 := ⟨_, rfl, by simp [ByteArray.size, dg_len]⟩
  rw [eS7] at k7
  have q1 : (t : Int) / 3600 = ((t / 3600 : Nat) : Int) := by omega
  have q2 : (t : Int) / 60 % 60 = ((t / 60 % 60 : Nat) : Int) := by omega
  have q3 : (t : Int) % 60 = ((t % 60 : Nat) : Int) := by omega
  simp only [← q1] at k4
  simp only [← q2] at k5
  simp only [← q3] at k6
  clear q1 q2 q3
  have hH : ((((((((((S1 ++ ⟨#[45]⟩) ++ S2) ++ ⟨#[45]⟩) ++ S3) ++ ⟨#[84]⟩) ++ S4) ++ ⟨#[58]⟩) ++ S5) ++ ⟨#[58]⟩) ++ S6) = ⟨(headL y m d t).toArray⟩ := by
    rw [← eS1, ← eS2, ← eS3, ← eS4, ← eS5, ← eS6]
    simp only [headL, ← app_lists]
  have hS7 : S7.data.toList = dg N 9 := by rw [← eS7]
  have HT := Lib.hid hT
  have HH := Lib.hid hH
  have HS7 := Lib.hid hS7
  clear hT hdt h hH hS7 eS1 eS2 eS3 eS4 eS5 eS6 eS7
  go_enter Tryd.func36, Tryd.ntmps36
  go_wp2_with fail
  refine (ho _).mono ?_
  rintro e w1 ⟨rfl, hb1⟩
  have c0 : w1.cell? ⟨w.heap.size, 0, none⟩ = some (.int .i64 s) := (hb1.cell (p := ⟨w.heap.size, 0, none⟩) (by simp)).trans (World.cell?_alloc_at _ _ _ _ rfl)
  have c1 : w1.cell? ⟨w.heap.size, 1, none⟩ = some (.int .i64 N) := (hb1.cell (p := ⟨w.heap.size, 1, none⟩) (by simp)).trans (World.cell?_alloc_at _ _ _ _ rfl)
  have hz : w.heap.size < w1.heap.size := by have := hb1.size; simp at this; omega
  have hB := hb0.trans (hb1.mono hb0.size)
  have hD := Below.refl w1.heap.size w1
  clear hb1 hb0 ho
  go_wp2_with fail
  refine (k1 _).mono ?_
  rintro e w2 ⟨rfl, hb⟩
  replace hD := hD.trans (hb.mono hD.size)
  clear hb
  go_wp2_with fail
  refine (k2 _).mono ?_
  rintro e w3 ⟨rfl, hb⟩
  replace hD := hD.trans (hb.mono hD.size)
  clear hb
  go_wp2_with fail
  refine (k3 _).mono ?_
  rintro e w4 ⟨rfl, hb⟩
  replace hD := hD.trans (hb.mono hD.size)
  clear hb
  go_wp2_with fail
  refine (k4 _).mono ?_
  rintro e w5 ⟨rfl, hb⟩
  replace hD := hD.trans (hb.mono hD.size)
  clear hb
  go_wp2_with fail
  refine (k5 _).mono ?_
  rintro e w6 ⟨rfl, hb⟩
  replace hD := hD.trans (hb.mono hD.size)
  clear hb
  go_wp2_with fail
  refine (k6 _).mono ?_
  rintro e w7 ⟨rfl, hb⟩
  replace hD := hD.trans (hb.mono hD.size)
  clear hb
  have d1' : w7.cell? ⟨w.heap.size, 1, none⟩ = some (.int .i64 N) := (hD.cell (p := ⟨w.heap.size, 1, none⟩) hz).trans c1
  have hB7 := hB.trans (hD.mono hB.size)
  clear c0 c1 hD hB k1 k2 k3 k4 k5 k6 ht hz
  go_wp2_with fail
  refine (k7 _).mono ?_
  rintro e w8 ⟨rfl, hb⟩
  have HB8 := Lib.hid (hB7.trans (hb.mono hB7.size))
  clear hb hB7 k7 d1'
  have HR0 := Lib.hid (TrI.start HS7.out zS7)
  have zS7' : S7.size ≤ 9 := by omega
  clear zS7
  go_wp2_with fail
  go_loop [8] (fun f => ∃ F : ByteArray, f = .string F ∧ F.size ≤ 9 ∧ TrI N F) (fun f => match f with | .string F => F.size | _ => 0)
  case atStart => exact ⟨S7, rfl, zS7', HR0.out⟩
  case round =>
    obtain ⟨F, rfl, hF9, htr⟩ := hrel
    have HR := Lib.hid htr
    clear htr
    have fin : ∀ (h0 : F.data.toList = Lib.trimRightB (dg N 9) 48) (hne : F.data.toList ≠ []), ((((((((((((S1 ++ ⟨#[45]⟩) ++ S2) ++ ⟨#[45]⟩) ++ S3) ++ ⟨#[84]⟩) ++ S4) ++ ⟨#[58]⟩) ++ S5) ++ ⟨#[58]⟩) ++ S6) ++ ((⟨#[46]⟩ : ByteArray) ++ F)) ++ ⟨#[90]⟩) = ⟨(headL y m d t ++ fracL N ++ [90]).toArray⟩ := by
      intro h0 hne
      rw [HH.out, str_ext h0, frac_tr N hNb, if_neg (by rw [← h0]; exact hne)]
      simp only [← app_lists]
    have fin0 : ∀ (h0 : Lib.trimRightB (dg N 9) 48 = []), (((((((((((S1 ++ ⟨#[45]⟩) ++ S2) ++ ⟨#[45]⟩) ++ S3) ++ ⟨#[84]⟩) ++ S4) ++ ⟨#[58]⟩) ++ S5) ++ ⟨#[58]⟩) ++ S6) ++ ⟨#[90]⟩) = ⟨(headL y m d t ++ fracL N ++ [90]).toArray⟩ := by
      intro h0
      rw [HH.out, frac_tr N hNb, if_pos h0, List.append_nil]
      simp only [← app_lists]
    have HF := Lib.hid fin
    have HF0 := Lib.hid fin0
    clear fin fin0
    rcases Nat.eq_zero_or_pos F.size with h0 | h0
    · have HE := Lib.hid (HR.out.end0 h0)
      have hL : F.data.toList = [] := List.length_eq_zero_iff.1 (by rw [ba_len]; exact h0)
      have g1 : F.toList.isEmpty = true := by rw [ByteArray.toList_eq, hL]; rfl
      have g2 : (F.size : Int) = 0 := by omega
      clear h0 hL
      go_wp2
      go_ret
      exact ⟨ret_str (by rw [HT.out]; exact HF0.out HE.out), HB8.out⟩
    · obtain ⟨k, hk⟩ : ∃ k, F.size = k + 1 := ⟨F.size - 1, by omega⟩
      have hkI : (F.size : Int) = (k : Int) + 1 := by omega
      have hkl : k < F.size := by omega
      by_cases h48 : (F[k]'hkl).toNat = 48
      · have HS := Lib.hid (HR.out.step k hk h48)
        have hes := ext_size F k (by omega)
        have h48' : ((F[k]'hkl).toNat : Int) = 48 := by omega
        have HK := Lib.hid hk
        have HES := Lib.hid hes
        clear h48 hk hes
        go_wp2
        go_round
        case rel => exact ⟨F.extract 0 k, rfl, by rw [HES.out]; omega, HS.out⟩
        case measure => simp [HES.out]; omega
      · have HE := Lib.hid (HR.out.end1 k hF9 hk h48)
        have hne : F.data.toList ≠ [] := by intro e; have := ba_len F; rw [e] at this; simp at this; omega
        have g1 : (!F.toList.isEmpty) = true := by rw [ByteArray.toList_eq]; cases hq : F.data.toList <;> simp_all
        have h48' : (((F[k]'hkl).toNat : Int) == 48) = false := by rw [beq_eq_false_iff_ne]; omega
        have HNE := Lib.hid hne
        clear h48 hk hne
        go_wp2
        go_ret
        exact ⟨ret_str (by rw [HT.out]; exact HF.out HE.out.symm HNE.out), HB8.out⟩
set_option maxHeartbeats 4000000 in
theorem text_ref (s n : Int) (w : World) : Calls Tryd.prog 13 #[.agg #[.int .i64 s, .int .i64 n]] w fun e w' => e = .returned (TextV s n) ∧ Below w.heap.size w w' := by
  have hm := fun W => may_ref s n W
  by_cases hok : okD s n = true
  · have ho := fun W => of_ref s n hok W
    have hV : TextV s n = .tuple #[.string ⟨(textL s n).toArray⟩, .int .i64 0] := if_pos hok
    rw [hok] at hm
    rw [hV]
    generalize (⟨(textL s n).toArray⟩ : ByteArray) = T at *
    clear hV hok
    have HM := Lib.hid hm
    have HO := Lib.hid ho
    clear hm ho
    go_enter Tryd.func13, Tryd.ntmps13
    go_wp2_with fail
    refine (HM.out _).mono ?_
    rintro e w1 ⟨rfl, hb⟩
    obtain ⟨c0, c1⟩ := day_cells _ _ _ _ hb
    have HB1 := Lib.hid (bt (bAl w (.cells #[.int .i64 s, .int .i64 n] 23)) (bAl w (.cells #[.int .i64 s, .int .i64 n] 23)).size hb)
    clear hb
    go_wp2_with fail
    refine (HO.out _).mono ?_
    rintro e w2 ⟨rfl, hb⟩
    go_wp2_with fail
    go_ret2
    exact ⟨rfl, bt HB1.out HB1.out.size hb⟩
  · have hV : TextV s n = .tuple #[.string ⟨#[]⟩, .int .i64 120] := if_neg hok
    rw [show okD s n = false by simpa using hok] at hm
    rw [hV]
    clear hV hok
    have HM := Lib.hid hm
    clear hm
    go_enter Tryd.func13, Tryd.ntmps13
    go_wp2_with fail
    refine (HM.out _).mono ?_
    rintro e w1 ⟨rfl, hb⟩
    go_wp2_with fail
    go_ret2
    exact ⟨rfl, bt (bAl w _) (bAl w _).size hb⟩
end Go.Proofs.YtdaadoiedaplaaaDoor
