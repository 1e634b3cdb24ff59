/- Plain laws of texts: what is told is read again. Conditions: those of each theorem. -/
import Derived.Test.YtdaadoiedaplaaaDoorOpenD
namespace Go.Proofs.YtdaadoiedaplaaaDoor
open Go.RowKit Go.Lib
theorem u8_48 (k : Nat) (h : k < 10) : (UInt8.ofNat (48 + k)).toNat = 48 + k := by
  simp [UInt8.toNat_ofNat']; omega
theorem isDig_48 (k : Nat) (h : k < 10) : isDig (UInt8.ofNat (48 + k)) = true := by
  unfold isDig; rw [u8_48 k h]; simp; omega
theorem dval_48 (k : Nat) (h : k < 10) : dval (UInt8.ofNat (48 + k)) = k := by
  unfold dval; rw [u8_48 k h]; omega
theorem dg_all (n m : Nat) : (dg n m).all isDig = true := by
  induction m generalizing n with
  | zero => rfl
  | succ m ih => rw [dg, List.all_append, ih, List.all_cons, isDig_48 (n % 10) (by omega)]; rfl
theorem dg_val (n m : Nat) (h : n < 10 ^ m) : valL (dg n m) = n := by
  induction m generalizing n with
  | zero => simp at h; subst h; rfl
  | succ m ih =>
    rw [dg, valL_snoc, ih (n / 10) (by rw [Nat.pow_succ] at h; exact Nat.div_lt_of_lt_mul (by rw [Nat.mul_comm]; exact h)), dval_48 _ (by omega)]
    omega
theorem num_dg (n m low high : Nat) (r : List UInt8) (h : n < 10 ^ m) (h1 : low ≤ n) (h2 : n ≤ high) : numP m low high (dg n m ++ r) = some (n, r) := by
  have hl := dg_len n m
  have ht : (dg n m ++ r).take m = dg n m := List.take_left' hl
  have hd : (dg n m ++ r).drop m = r := List.drop_left' hl
  unfold numP
  rw [ht, hd, dg_val n m h, if_pos ⟨by simp [hl], dg_all n m, h1, h2⟩]
theorem mark_cons (M : List UInt8) (c : UInt8) (r : List UInt8) (h : c ∈ M) : markP M (c :: r) = some (c, r) := by
  rw [markP, if_pos h]
/-- what does not go on with a digit or a point -/
def Ends (r : List UInt8) : Prop := ∃ c q, r = c :: q ∧ c ∉ digs ∧ c ≠ 46
theorem isDig_mem (c : UInt8) (h : isDig c = true) : c ∈ digs := by
  unfold isDig at h
  rw [decide_eq_true_iff] at h
  have hc : c.toNat = 48 ∨ c.toNat = 49 ∨ c.toNat = 50 ∨ c.toNat = 51 ∨ c.toNat = 52 ∨ c.toNat = 53 ∨ c.toNat = 54 ∨ c.toNat = 55 ∨ c.toNat = 56 ∨ c.toNat = 57 := by omega
  have e : c = UInt8.ofNat c.toNat := by simp
  rcases hc with h | h | h | h | h | h | h | h | h | h <;> (rw [h] at e; subst e; decide)
theorem trim_app (T r : List UInt8) (hT : T.all isDig = true) (hr : Ends r) : Lib.trimLeftS (T ++ r) digs = r := by
  obtain ⟨c, q, rfl, h1, h2⟩ := hr
  unfold Lib.trimLeftS
  induction T with
  | nil => simp [h1]
  | cons a T ih =>
    simp only [List.all_cons, Bool.and_eq_true] at hT
    have := isDig_mem a hT.1
    simp only [List.cons_append]
    rw [List.dropWhile_cons_of_pos (by simpa using this)]
    exact ih hT.2
theorem val_app0 (T : List UInt8) (j : Nat) : valL (T ++ List.replicate j 48) = valL T * 10 ^ j := by
  induction j with
  | zero => simp
  | succ j ih =>
    rw [List.replicate_succ', ← List.append_assoc, valL_snoc, ih, show dval 48 = 0 from rfl, Nat.pow_succ, Nat.mul_assoc, Nat.add_zero]
theorem trimR_app (l : List UInt8) (c : UInt8) : ∃ j, l = Lib.trimRightB l c ++ List.replicate j c := by
  have key : ∀ m : List UInt8, ∃ j, m = List.replicate j c ++ m.dropWhile (· == c) := by
    intro m
    induction m with
    | nil => exact ⟨0, rfl⟩
    | cons a m ih =>
      by_cases h : (a == c) = true
      · obtain ⟨j, hj⟩ := ih
        have : a = c := by simpa using h
        subst this
        refine ⟨j + 1, ?_⟩
        rw [List.dropWhile_cons, if_pos h, List.replicate_succ, List.cons_append, ← hj]
      · exact ⟨0, by rw [List.dropWhile_cons, if_neg h]; rfl⟩
  obtain ⟨j, hj⟩ := key l.reverse
  refine ⟨j, ?_⟩
  unfold Lib.trimRightB
  have := congrArg List.reverse hj
  rw [List.reverse_reverse, List.reverse_append, List.reverse_replicate] at this
  exact this
theorem trimR_rep (l : List UInt8) (c : UInt8) (j : Nat) : (Lib.trimRightB (l ++ List.replicate j c) c).length ≤ l.length := by
  unfold Lib.trimRightB
  rw [List.length_reverse, List.reverse_append, List.reverse_replicate]
  induction j with
  | zero =>
    have := List.IsSuffix.length_le (List.dropWhile_suffix (· == c) (l := l.reverse))
    rw [List.length_reverse] at this
    exact this
  | succ j ih =>
    rw [List.replicate_succ, List.cons_append, List.dropWhile_cons, if_pos (by simp)]
    exact ih
theorem frac_app (n : Nat) (r : List UInt8) (hn : n ≤ 999999999) (hr : Ends r) : fracP (fracL n ++ r) = some (n, r) := by
  unfold fracL
  by_cases h0 : 0 < n
  · rw [if_pos h0]
    obtain ⟨j, hj⟩ := trimR_app (dg n 9) 48
    have hv := dg_val n 9 (by omega)
    have hall := dg_all n 9
    have hlen := dg_len n 9
    obtain ⟨T, hT⟩ : ∃ T, Lib.trimRightB (dg n 9) 48 = T := ⟨_, rfl⟩
    rw [hT] at hj ⊢
    rw [hj, List.length_append, List.length_replicate] at hlen
    rw [hj, List.all_append, Bool.and_eq_true] at hall
    rw [hj, val_app0] at hv
    have hd : ([46] ++ T ++ r).drop 1 = T ++ r := rfl
    have hq : nDig (T ++ r) = T.length := by
      unfold nDig
      rw [trim_app T r hall.1 hr, List.length_append]; omega
    have hT0 : 1 ≤ T.length := by
      cases T with
      | nil => exfalso; rw [show valL [] = 0 from rfl] at hv; omega
      | cons a T => simp
    have hp : 1 ≤ 10 ^ j := Nat.one_le_pow _ _ (by omega)
    have hle : valL T ≤ n := by rw [← hv]; exact Nat.le_mul_of_pos_right _ (by omega)
    have hh : ([(46 : UInt8)] ++ T ++ r).head? = some 46 := by simp
    unfold fracP
    rw [hd, hq, if_pos hh, if_pos ⟨hT0, by omega⟩]
    unfold numP
    rw [List.take_left' rfl, List.drop_left' rfl, if_pos ⟨by simp, hall.1, Nat.zero_le _, by omega⟩]
    show some (valL T * 10 ^ (9 - T.length), r) = _
    rw [show 9 - T.length = j by omega, hv]
  · rw [if_neg h0]
    obtain ⟨c, q, rfl, h1, h2⟩ := hr
    unfold fracP
    rw [List.nil_append, if_neg (by simp [h2]), show n = 0 by omega]
theorem dayOf_rng (s : Int) (h0 : 0 ≤ s) (h1 : s ≤ 315569519999) : -60 ≤ dayOf s ∧ dayOf s ≤ 3652364 := by unfold dayOf; omega
/-- a text without its offset is read up to there -/
theorem parse_head (s n : Int) (hok : okD s n = true) (r : List UInt8) (hr : Ends r) :
    ∃ (y m d : Nat), (dateD (dayOf s)).1.toNat = y ∧ (dateD (dayOf s)).2.1.toNat = m ∧ (dateD (dayOf s)).2.2.toNat = d ∧ (d : Int) ≤ dim y m ∧ sinceD y m d = dayOf s ∧ y ≤ 9999 ∧ 1 ≤ m ∧ m ≤ 12 ∧ 1 ≤ d ∧ d ≤ 31 ∧
      parseP (headL y m d (s % 86400).toNat ++ fracL n.toNat ++ r) = k12 y m d ((s % 86400).toNat / 3600) ((s % 86400).toNat / 60 % 60) ((s % 86400).toNat % 60) n.toNat r := by
  unfold okD at hok
  rw [decide_eq_true_iff] at hok
  obtain ⟨s0, s1, n0, n1⟩ := hok
  obtain ⟨d0, d1⟩ := dayOf_rng s s0 s1
  obtain ⟨y, m, d, hd, hy, m0, m1, e0, e1, hdim, hs⟩ := date_range (dayOf s) d0 d1
  refine ⟨y, m, d, by rw [hd]; rfl, by rw [hd]; rfl, by rw [hd]; rfl, hdim, hs, hy, m0, m1, e0, e1, ?_⟩
  obtain ⟨t, ht⟩ : ∃ t, (s % 86400).toNat = t := ⟨_, rfl⟩
  have ht1 : t < 86400 := by omega
  rw [ht]
  have hh : t / 3600 ≤ 23 := by omega
  unfold headL
  simp only [List.append_assoc, List.cons_append, List.nil_append]
  unfold parseP k0
  rw [num_dg y 4 0 9999 _ (by omega) (by omega) (by omega)]
  simp only [Option.bind_some]
  unfold k1
  rw [mark_cons _ _ _ (by decide)]
  simp only [Option.bind_some]
  unfold k2
  rw [num_dg m 2 1 12 _ (by omega) (by omega) (by omega)]
  simp only [Option.bind_some]
  unfold k3
  rw [mark_cons _ _ _ (by decide)]
  simp only [Option.bind_some]
  unfold k4
  rw [num_dg d 2 1 31 _ (by omega) (by omega) (by omega)]
  simp only [Option.bind_some]
  unfold k5
  rw [mark_cons _ _ _ (by decide)]
  simp only [Option.bind_some]
  unfold k6
  rw [num_dg _ 2 0 23 _ (by omega) (by omega) hh]
  simp only [Option.bind_some]
  unfold k7
  rw [mark_cons _ _ _ (by decide)]
  simp only [Option.bind_some]
  unfold k8
  rw [num_dg _ 2 0 59 _ (by omega) (by omega) (by omega)]
  simp only [Option.bind_some]
  unfold k9
  rw [mark_cons _ _ _ (by decide)]
  simp only [Option.bind_some]
  unfold k10
  rw [num_dg _ 2 0 59 _ (by omega) (by omega) (by omega)]
  simp only [Option.bind_some]
  unfold k11
  rw [frac_app _ _ (by omega) hr]
  simp only [Option.bind_some]
/-- a text tells what it is the text of -/
theorem parse_text (s n : Int) (hok : okD s n = true) : parseP (textL s n) = some (s, n) := by
  obtain ⟨y, m, d, hy, hm, hd, hdim, hs, _, _, _, _, _, hp⟩ := parse_head s n hok [90] ⟨90, [], rfl, by decide, by decide⟩
  unfold textL
  rw [hy, hm, hd, hp]
  unfold k12
  rw [mark_cons _ _ _ (by decide)]
  simp only [Option.bind_some]
  have hok2 := hok
  unfold okD at hok2
  rw [decide_eq_true_iff] at hok2
  obtain ⟨s0, s1, n0, n1⟩ := hok2
  have hsec : secD y m d ((s % 86400).toNat / 3600) ((s % 86400).toNat / 60 % 60) ((s % 86400).toNat % 60) 0 = s := by
    unfold secD
    rw [hs]
    unfold dayOf
    omega
  have hnn : ((n.toNat : Nat) : Int) = n := by omega
  unfold kO0
  rw [if_neg (by decide)]
  unfold kFin
  rw [hsec, hnn, if_pos ⟨rfl, hdim, hok⟩]
end Go.Proofs.YtdaadoiedaplaaaDoor
