/- The program's digits: a number's, so many. Conditions: the number has no more; the table of powers of ten as it is laid. -/
import Derived.Test.YtdaadoiedaplaaaDoorCmp
import Derived.Lib.ItoaNum
namespace Go.Proofs.YtdaadoiedaplaaaDoor
open Go.RowKit Go.Lib
abbrev Pow (w : World) : Prop := Lib.TabIs Tryd.prog w "internal/strconv.uint64pow10" .u64 Lib.pow10Tab
theorem Pow.below {w w' : World} (h : Pow w) (hb : Below w.heap.size w w') : Pow w' := by
  unfold Pow Lib.TabIs at *
  rw [← h]
  unfold World.var?
  cases hg : Tryd.prog.globalNamed "internal/strconv.uint64pow10" with
  | none => rfl
  | some g =>
    have hlt : g < w.heap.size := by
      rcases Nat.lt_or_ge g w.heap.size with h' | h'
      · exact h'
      · unfold World.var? at h
        rw [hg] at h
        simp [Array.getElem?_eq_none h'] at h
    simp only [Option.bind_some, hb.block g hlt]
/-- the last so many digits of a number -/
def dg : Nat → Nat → List UInt8
  | _, 0 => []
  | n, m + 1 => dg (n / 10) m ++ [UInt8.ofNat (48 + n % 10)]
theorem dg_len (n m : Nat) : (dg n m).length = m := by
  induction m generalizing n with
  | zero => rfl
  | succ m ih => simp [dg, ih]
theorem dg_zero (m : Nat) : dg 0 m = List.replicate m 48 := by
  induction m with
  | zero => rfl
  | succ m ih =>
    rw [dg, ih, List.replicate_succ']
    rfl
theorem dec_len (n m : Nat) (h : n < 10 ^ m) (hm : 1 ≤ m) : 1 ≤ (decDigits n).length ∧ (decDigits n).length ≤ m := by
  induction m generalizing n with
  | zero => omega
  | succ m ih =>
    rw [decDigits]
    by_cases h10 : n < 10
    · rw [dif_pos h10]; simp
    · rw [dif_neg h10]
      have h2 : n / 10 < 10 ^ m := by
        rw [Nat.pow_succ] at h
        exact Nat.div_lt_of_lt_mul (by rw [Nat.mul_comm]; exact h)
      have hm1 : 1 ≤ m := by
        rcases Nat.eq_zero_or_pos m with h3 | h3
        · subst h3
          simp at h
          omega
        · exact h3
      have := ih (n / 10) h2 hm1
      simp; omega
theorem dg_dec (n m : Nat) (h : n < 10 ^ m) (hm : 1 ≤ m) : List.replicate (m - (decDigits n).length) 48 ++ decDigits n = dg n m := by
  induction m generalizing n with
  | zero => omega
  | succ m ih =>
    rw [decDigits]
    by_cases h10 : n < 10
    · rw [dif_pos h10, dg, show n / 10 = 0 by omega, dg_zero, show n % 10 = n by omega]
      rfl
    · rw [dif_neg h10, dg]
      have h2 : n / 10 < 10 ^ m := by
        rw [Nat.pow_succ] at h
        exact Nat.div_lt_of_lt_mul (by rw [Nat.mul_comm]; exact h)
      have hm1 : 1 ≤ m := by
        rcases Nat.eq_zero_or_pos m with h3 | h3
        · subst h3
          simp at h
          omega
        · exact h3
      have hl := dec_len (n / 10) m h2 hm1
      rw [← ih (n / 10) h2 hm1, ← List.append_assoc, List.length_append]
      simp
theorem rep_one (c : Nat) : Lib.repeatL [48] c = List.replicate c (48 : UInt8) := by
  induction c with
  | zero => rfl
  | succ c ih =>
    show [48] ++ Lib.repeatL [48] c = _
    rw [ih, List.replicate_succ]
    rfl
theorem app_lists (a b : List UInt8) : (⟨a.toArray⟩ : ByteArray) ++ ⟨b.toArray⟩ = ⟨(a ++ b).toArray⟩ := by
  apply ByteArray.ext
  simp [ByteArray.data_append]
set_option maxHeartbeats 1000000 in
theorem digits_any (n m : Nat) (h : n < 10 ^ m) (hm : 1 ≤ m) (hm9 : m ≤ 9) (w : World) (hP : Pow w) :
    Calls Tryd.prog 34 #[.int .i64 n, .int .i64 m] w fun e w' => e = .returned (.string ⟨(dg n m).toArray⟩) ∧ Below w.heap.size w w' := by
  have hb : n < 1000000000 := Nat.lt_of_lt_of_le h (Nat.pow_le_pow_right (by omega) hm9)
  have h1 := Tryd.strconv_Itoa n (by omega) (by omega) w hP
  have he : Lib.itoa (n : Int) = decDigits n := by
    unfold Lib.itoa
    rw [if_neg (by omega)]
    rfl
  rw [he] at h1
  obtain ⟨l1, l2⟩ := dec_len n m h hm
  have hd := dg_dec n m h hm
  generalize decDigits n = L at *
  have h2 := fun W => Tryd.strings_Repeat ⟨#[48]⟩ (m - L.length) W (by omega) (by show 1 * _ ≤ _; omega)
  rw [show ((⟨#[48]⟩ : ByteArray).data.toList) = [48] from rfl, rep_one] at h2
  have hmx : max (0 : Int) ((m : Int) - L.length) = ((m - L.length : Nat) : Int) := by omega
  have hsz : (⟨L.toArray⟩ : ByteArray).size = L.length := by simp [ByteArray.size]
  have HD := Lib.hid hd
  clear hd he
  go_enter Tryd.func34, Tryd.ntmps34
  go_wp2_with fail
  refine h1.mono ?_
  rintro e w1 ⟨rfl, k, os, hw1⟩
  have hb1 : Below w.heap.size w w1 := by
    rw [hw1]
    exact (Below.of_drewN _ _ _).trans ⟨rfl, rfl, rfl, by simp [Sort.grow], fun i hi => Sort.heap_grow_old _ os hi⟩
  clear hw1 h1
  go_wp2_with fail
  refine (h2 _).mono ?_
  rintro e w2 ⟨rfl, hb2⟩
  have hsz2 : (⟨(List.replicate (m - L.length) (48 : UInt8)).toArray⟩ : ByteArray).size = m - L.length := by simp [ByteArray.size]
  go_wp2
  go_ret
  exact ⟨ret_str (by rw [app_lists, Array.toList_replicate, HD.out]), hb1.trans (hb2.mono hb1.size)⟩
end Go.Proofs.YtdaadoiedaplaaaDoor
