/- Plain law: the order of texts without fractions is that of the times. Conditions: those of each theorem. -/
import Derived.Test.YtdaadoiedaplaaaDoorNextPlain
import Derived.Test.YtdaadoiedaplaaaDoorBackPlain2
namespace Go.Proofs.YtdaadoiedaplaaaDoor
open Go.RowKit Go.Lib
theorem bl_irrefl (x : List UInt8) : Op.bytesLess x x = false := by
  induction x with
  | nil => rfl
  | cons a x ih => simp [Op.bytesLess, ih]
theorem bl_asymm : ∀ (x y : List UInt8), Op.bytesLess x y = true → Op.bytesLess y x = false
  | x, [], h => by cases x <;> cases h
  | [], _ :: _, _ => rfl
  | a :: x, b :: y, h => by
    simp only [Op.bytesLess, Bool.or_eq_true, decide_eq_true_iff, Bool.and_eq_true, beq_iff_eq] at h
    rcases h with h | ⟨rfl, h⟩
    · have h1 : ¬ b < a := fun e => by
        have := UInt8.lt_iff_toNat_lt.1 h
        have := UInt8.lt_iff_toNat_lt.1 e
        omega
      have h2 : (b == a) = false := by
        rw [beq_eq_false_iff_ne]
        rintro rfl
        exact h1 h
      simp [Op.bytesLess, h1, h2]
    · have ih := bl_asymm x y h
      have h1 : ¬ a < a := fun e => by have := UInt8.lt_iff_toNat_lt.1 e; omega
      simp [Op.bytesLess, h1, ih]
theorem bl_pre (z x y : List UInt8) : Op.bytesLess (z ++ x) (z ++ y) = Op.bytesLess x y := by
  induction z with
  | nil => rfl
  | cons a z ih =>
    have h1 : ¬ a < a := fun e => by have := UInt8.lt_iff_toNat_lt.1 e; omega
    simp [Op.bytesLess, ih, h1]
theorem bl_cons (a : UInt8) (x y : List UInt8) : Op.bytesLess (a :: x) (a :: y) = Op.bytesLess x y := bl_pre [a] x y
theorem bl_dg : ∀ (k p q : Nat) (x y : List UInt8), p < q → q < 10 ^ k → Op.bytesLess (dg p k ++ x) (dg q k ++ y) = true
  | 0, p, q, x, y, h, hq => by simp at hq; omega
  | k + 1, p, q, x, y, h, hq => by
    rw [dg, dg, List.append_assoc, List.append_assoc]
    by_cases he : p / 10 = q / 10
    · rw [he, bl_pre]
      have hlt : UInt8.ofNat (48 + p % 10) < UInt8.ofNat (48 + q % 10) := by
        rw [UInt8.lt_iff_toNat_lt, u8_48 _ (by omega), u8_48 _ (by omega)]
        omega
      show Op.bytesLess (UInt8.ofNat (48 + p % 10) :: x) (UInt8.ofNat (48 + q % 10) :: y) = true
      rw [Op.bytesLess, decide_eq_true hlt]
      rfl
    · exact bl_dg k _ _ _ _ (by omega) (by rw [Nat.pow_succ] at hq; exact Nat.div_lt_of_lt_mul (by rw [Nat.mul_comm]; exact hq))
def keyD (n : Int) : Int := (dateD n).1 * 10000 + (dateD n).2.1 * 100 + (dateD n).2.2
theorem key_next (n : Int) : keyD n < keyD (n + 1) := by
  obtain ⟨h, m0, m1, d0, d1⟩ := next_day n
  unfold keyD
  rcases h with ⟨h1, h2, h3⟩ | ⟨h1, h2, h3, _⟩ | ⟨h1, h2, h3, h4, h5⟩ <;> omega
theorem key_lt (n : Int) (k : Nat) : keyD n < keyD (n + 1 + k) := by
  induction k with
  | zero => have := key_next n; simpa using this
  | succ k ih =>
    have := key_next (n + 1 + k)
    rw [show n + 1 + ((k + 1 : Nat) : Int) = n + 1 + k + 1 by omega]
    omega
theorem key_mono (n p : Int) (h : n < p) : keyD n < keyD p := by
  have := key_lt n (p - n - 1).toNat
  rw [show n + 1 + (((p - n - 1).toNat : Nat) : Int) = p by omega] at this
  exact this
theorem text_lt (a b : Int) (ha : okD a 0 = true) (hb : okD b 0 = true) (h : a < b) : Op.bytesLess (textL a 0) (textL b 0) = true := by
  unfold okD at ha hb
  rw [decide_eq_true_iff] at ha hb
  obtain ⟨a0, a1, _, _⟩ := ha
  obtain ⟨b0, b1, _, _⟩ := hb
  obtain ⟨p0, p1⟩ := dayOf_rng a a0 a1
  obtain ⟨q0, q1⟩ := dayOf_rng b b0 b1
  obtain ⟨y, m, d, hd, hy, m0, m1, e0, e1, _, _⟩ := date_range (dayOf a) p0 p1
  obtain ⟨y', m', d', hd', hy', m0', m1', e0', e1', _, _⟩ := date_range (dayOf b) q0 q1
  unfold textL headL
  rw [hd, hd']
  simp only [Int.toNat_natCast, List.append_assoc, List.cons_append, List.nil_append, show fracL (0 : Int).toNat = [] from rfl]
  obtain ⟨t, ht⟩ : ∃ t, (a % 86400).toNat = t := ⟨_, rfl⟩
  obtain ⟨t', ht'⟩ : ∃ t, (b % 86400).toNat = t := ⟨_, rfl⟩
  rw [ht, ht']
  have ht1 : t < 86400 := by omega
  have ht1' : t' < 86400 := by omega
  by_cases hday : dayOf a = dayOf b
  · rw [hday, hd'] at hd
    simp only [Prod.mk.injEq] at hd
    obtain ⟨ey, em, ed⟩ := hd
    obtain rfl : y' = y := by omega
    obtain rfl : m' = m := by omega
    obtain rfl : d' = d := by omega
    have htt : t < t' := by unfold dayOf at hday; omega
    rw [bl_pre, bl_cons, bl_pre, bl_cons, bl_pre, bl_cons]
    by_cases h1 : t / 3600 = t' / 3600
    · rw [h1, bl_pre, bl_cons]
      by_cases h2 : t / 60 % 60 = t' / 60 % 60
      · rw [h2, bl_pre, bl_cons]
        exact bl_dg 2 _ _ _ _ (by omega) (by omega)
      · exact bl_dg 2 _ _ _ _ (by omega) (by omega)
    · exact bl_dg 2 _ _ _ _ (by omega) (by omega)
  · have hlt : dayOf a < dayOf b := by unfold dayOf at hday ⊢; omega
    have hk := key_mono _ _ hlt
    unfold keyD at hk
    rw [hd, hd'] at hk
    simp only at hk
    by_cases h1 : y = y'
    · subst h1
      rw [bl_pre, bl_cons]
      by_cases h2 : m = m'
      · subst h2
        rw [bl_pre, bl_cons]
        exact bl_dg 2 _ _ _ _ (by omega) (by omega)
      · exact bl_dg 2 _ _ _ _ (by omega) (by omega)
    · exact bl_dg 4 _ _ _ _ (by omega) (by omega)
theorem cmpD_neg (s n t m : Int) : cmpD t m s n = -cmpD s n t m := by
  unfold cmpD cmp2
  repeat' split
  all_goals omega
theorem cmpD_zero (s n t m : Int) : cmpD s n t m = 0 ↔ s = t ∧ n = m := by
  unfold cmpD cmp2
  repeat' split
  all_goals omega
end Go.Proofs.YtdaadoiedaplaaaDoor
