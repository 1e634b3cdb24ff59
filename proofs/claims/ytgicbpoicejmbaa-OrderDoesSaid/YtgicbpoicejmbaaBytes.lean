/- Contracts of the order of two strings: the reference's Less and Compare, the program's Compare: each gives the order of bytes. Conditions: lengths below 2^63. -/
import Derived.Test.YtgicbpoicejmbaaRows
import Derived.Test.YtgicbpoicejmbaaBase
import Derived.WalkKit
import Derived.WalkLawsBesides
import Derived.BigQuiet
import Derived.Deep.QuietTactic
import Derived.Deep.Draws
import Derived.Sort.Walk0
namespace Go.Proofs.Ytgicbpoicejmbaa
open Go.RowKit

/-- the order of bytes, as a Bool. -/
def slt (a b : ByteArray) : Bool := Op.bytesLess a.toList b.toList
def scmp (a b : ByteArray) : Int := if slt a b = true then -1 else if slt b a = true then 1 else 0

theorem slt_iff (a b : ByteArray) : slt a b = true ↔ a.data.toList < b.data.toList := by
  unfold slt
  rw [bytesLess_eq, Lib.toList_data, Lib.toList_data, decide_eq_true_iff]

theorem lt_at (l m : List UInt8) (k : Nat) (hk : k < l.length) (hm : k < m.length) (he : l.take k = m.take k) :
    (l[k] < m[k] → l < m) ∧ (m[k] < l[k] → m < l) := by
  induction k generalizing l m with
  | zero =>
    match l, m with
    | a :: l, b :: m => exact ⟨fun h => List.Lex.rel h, fun h => List.Lex.rel h⟩
  | succ k ih =>
    match l, m with
    | a :: l, b :: m =>
      simp only [List.take_succ_cons, List.cons.injEq] at he
      obtain ⟨rfl, he⟩ := he
      have := ih l m (by simpa using hk) (by simpa using hm) he
      exact ⟨fun h => List.Lex.cons (this.1 h), fun h => List.Lex.cons (this.2 h)⟩

theorem lt_pre (l m : List UInt8) (k : Nat) (hk : k = l.length ∨ k = m.length) (hkl : k ≤ l.length) (hkm : k ≤ m.length) (he : l.take k = m.take k) : l < m ↔ l.length < m.length := by
  rcases hk with rfl | rfl
  · rw [List.take_length] at he
    rw [he, List.length_take]
    constructor
    · intro h
      by_cases hlt : l.length < m.length
      · omega
      · rw [List.take_of_length_le (by omega)] at h
        exact absurd h (List.lt_irrefl _)
    · intro h
      have hlt : l.length < m.length := by omega
      have e : m = m.take l.length ++ m.drop l.length := (List.take_append_drop _ _).symm
      generalize m.take l.length = x at *
      cases hd : m.drop l.length with
      | nil => simp at hd; omega
      | cons c r =>
        rw [e, hd]
        clear e hd he
        induction x with
        | nil => exact List.Lex.nil
        | cons a x ih => exact List.Lex.cons (ih)
  · rw [List.take_length] at he
    rw [← he, List.length_take]
    constructor
    · intro h
      have e : l = l.take m.length ++ l.drop m.length := (List.take_append_drop _ _).symm
      exfalso
      generalize l.take m.length = x at *
      generalize l.drop m.length = y at *
      rw [e] at h
      clear he hkl hkm e
      induction x with
      | nil => cases h
      | cons a x ih =>
        cases h with
        | rel h => exact absurd h (by simp)
        | cons h => exact ih h
    · intro h; omega

theorem data_get (s : ByteArray) (k : Nat) (h : k < s.size) : s.data.toList[k]'(by simpa using h) = s[k] := rfl
theorem take_snoc (s : ByteArray) (k : Nat) (h : k < s.size) : s.data.toList.take (k + 1) = s.data.toList.take k ++ [s[k]] := by
  rw [List.take_succ_eq_append_getElem (by simpa using h)]; rfl

theorem less_at (a b : ByteArray) (k : Nat) (h1 : k < a.size) (h2 : k < b.size) (he : a.data.toList.take k = b.data.toList.take k) (hne : a[k] ≠ b[k]) :
    slt a b = decide ((a[k].toNat : Int) < b[k].toNat) := by
  have h := lt_at a.data.toList b.data.toList k (by simpa using h1) (by simpa using h2) he
  rw [data_get a k h1, data_get b k h2] at h
  rw [Bool.eq_iff_iff, slt_iff, decide_eq_true_iff]
  constructor
  · intro hl
    rcases Nat.lt_trichotomy a[k].toNat b[k].toNat with h3 | h3 | h3
    · omega
    · exact absurd (UInt8.toNat_inj.1 h3) hne
    · exact absurd (List.lt_trans hl (h.2 (UInt8.lt_iff_toNat_lt.2 h3))) (List.lt_irrefl _)
  · intro hl
    exact h.1 (UInt8.lt_iff_toNat_lt.2 (by omega))
theorem less_end (a b : ByteArray) (k : Nat) (h : k = a.size ∨ k = b.size) (h1 : k ≤ a.size) (h2 : k ≤ b.size) (he : a.data.toList.take k = b.data.toList.take k) :
    slt a b = decide ((a.size : Int) < b.size) := by
  have h := lt_pre a.data.toList b.data.toList k (by simpa using h) (by simpa using h1) (by simpa using h2) he
  rw [Bool.eq_iff_iff, slt_iff, decide_eq_true_iff, h]
  simp

set_option maxHeartbeats 1000000 in
theorem less_any (a b : ByteArray) (w : World) (ha : a.size ≤ maxLen) (_hb : b.size ≤ maxLen) :
    Calls Try.prog 27 #[.string a, .string b] w fun e w' => e = .returned (.bool (slt a b)) ∧ ∃ n, w' = w.drewN n := by
  unfold maxLen at ha _hb
  go_enter Try.func27, Try.ntmps27
  go_wp2
  go_loopw [5] (fun i wr => ∃ k q : Nat, k ≤ a.size ∧ k ≤ b.size ∧ i = .int .i64 k ∧ a.data.toList.take k = b.data.toList.take k ∧ wr = w.drewN q) (fun i _ => a.size - (intOf i).toNat)
  case atStart => exact ⟨0, 0, Nat.zero_le _, Nat.zero_le _, rfl, rfl, rfl⟩
  case round =>
    obtain ⟨k, q, hka, hkb, rfl, he, rfl⟩ := hrel
    have HE := Lib.hid he
    clear he
    by_cases hlt : k < a.size ∧ k < b.size
    · obtain ⟨h1, h2⟩ := hlt
      go_wp2
      go_quiet (fail)
      go_wp2
      · have hne : ((↑a[k].toNat : Int) != ↑b[k].toNat) = true := by assumption
        go_quiet (fail)
        go_wp2
        go_ret
        refine ⟨ret_bool ?_, by simp only [World.drewN_drewN]; exact ⟨_, rfl⟩⟩
        rw [less_at a b k h1 h2 HE.out (by intro h; rw [h] at hne; simp at hne)]; simp
      · have heq : ((↑a[k].toNat : Int) != ↑b[k].toNat) = false := by assumption
        refine ⟨⟨k + 1, _, h1, h2, by go_num, ?_, rfl⟩, by simp [intOf]; omega⟩
        rw [take_snoc a k h1, take_snoc b k h2, HE.out]
        have : a[k] = b[k] := by
          apply UInt8.toNat_inj.1
          have := bne_eq_false_iff_eq.1 heq
          omega
        rw [this]
    · have h' : k = a.size ∨ k = b.size := by omega
      have HS := Lib.hid (less_end a b k h' hka hkb HE.out)
      by_cases h1 : k < a.size
      · have h2 : ¬ k < b.size := by omega
        go_wp2
        go_ret
        exact ⟨ret_bool (by rw [HS.out]; simp <;> omega), _, rfl⟩
      · go_wp2
        go_ret
        exact ⟨ret_bool (by rw [HS.out]; simp <;> omega), _, rfl⟩

theorem less_irrefl (a : ByteArray) : slt a a = false := by
  rw [Bool.eq_false_iff]
  intro h
  exact List.lt_irrefl _ ((slt_iff a a).1 h)

def Drew (x : Value) (w : World) (e : Ending) (w' : World) : Prop := e = .returned x ∧ ∃ n, w' = w.drewN n

set_option maxHeartbeats 1000000 in
theorem refcompare_any (a b : ByteArray) (w : World) (ha : a.size ≤ maxLen) (hb : b.size ≤ maxLen) :
    Calls Try.prog 10 #[.string a, .string b] w fun e w' => e = .returned (.int .i64 (scmp a b)) ∧ ∃ n, w' = w.drewN n := by
  by_cases h1 : slt a b = true
  · have H1 := Lib.hid h1
    clear h1
    have HS : Hid (scmp a b = -1) := by unfold scmp; rw [if_pos H1.out]; rfl
    go_enter Try.func10, Try.ntmps10
    go_wp2_with fail
    refine (less_any a b _ ha hb).mono ?_
    rintro e w' ⟨rfl, n, rfl⟩
    rw [H1.out]
    go_wp2
    go_ret
    exact ⟨ret_int HS.out.symm, ex_drew0⟩
  · have h1' : slt a b = false := by simpa using h1
    have H1 := Lib.hid h1'
    clear h1 h1'
    go_enter Try.func10, Try.ntmps10
    go_wp2_with fail
    refine (less_any a b _ ha hb).mono ?_
    rintro e w' ⟨rfl, n, rfl⟩
    rw [H1.out]
    go_wp2_with fail
    refine (less_any b a _ hb ha).mono ?_
    rintro e w' ⟨rfl, m, rfl⟩
    by_cases h2 : slt b a = true
    · have HS : Hid (scmp a b = 1) := by unfold scmp; rw [if_neg (by rw [H1.out]; simp), if_pos h2]; rfl
      rw [h2]
      clear h2
      go_wp2
      go_ret
      exact ⟨ret_int HS.out.symm, ex_drew0⟩
    · have HS : Hid (scmp a b = 0) := by unfold scmp; rw [if_neg (by rw [H1.out]; simp), if_neg h2]; rfl
      have h2' : slt b a = false := by simpa using h2
      rw [h2']
      clear h2 h2'
      go_wp2
      go_ret
      exact ⟨ret_int HS.out.symm, ex_drew0⟩

theorem slt_total (a b : ByteArray) (h1 : slt a b = false) (h2 : slt b a = false) : a = b := by
  have e : a.data.toList = b.data.toList := by
    apply List.le_antisymm
    · intro h; rw [(slt_iff b a).2 h] at h2; cases h2
    · intro h; rw [(slt_iff a b).2 h] at h1; cases h1
  obtain ⟨⟨l⟩⟩ := a
  obtain ⟨⟨m⟩⟩ := b
  simp at e
  rw [e]
theorem slt_asymm (a b : ByteArray) (h1 : slt a b = true) : slt b a = false := by
  rw [Bool.eq_false_iff]
  intro h
  exact List.lt_irrefl _ (List.lt_trans ((slt_iff a b).1 h1) ((slt_iff b a).1 h))
theorem slt_trans (a b c : ByteArray) (h1 : slt a b = true) (h2 : slt b c = true) : slt a c = true :=
  (slt_iff a c).2 (List.lt_trans ((slt_iff a b).1 h1) ((slt_iff b c).1 h2))
/-- how the walk spells the four tests on strings -/
theorem gtr_slt (a b : ByteArray) : (!(Op.bytesLess a.toList b.toList || a.toList == b.toList)) = slt b a := by
  change (!(slt a b || a.toList == b.toList)) = slt b a
  rw [Lib.toList_data, Lib.toList_data]
  cases h1 : slt a b
  · cases h2 : slt b a
    · have := slt_total a b h1 h2
      subst this
      simp
    · have hne : a ≠ b := by
        rintro rfl
        rw [h1] at h2
        cases h2
      have : (a.data.toList == b.data.toList) = false := by
        rw [beq_eq_false_iff_ne]
        intro e
        apply hne
        obtain ⟨⟨l⟩⟩ := a
        obtain ⟨⟨m⟩⟩ := b
        simp at e
        rw [e]
      rw [this]; rfl
  · rw [slt_asymm a b h1]; rfl

set_option maxHeartbeats 1000000 in
theorem isnan_any (x : ByteArray) (w : World) : Calls Try.prog 44 #[.string x] w fun e w' => e = .returned (.bool false) ∧ w = w' := by
  go_enter Try.func44, Try.ntmps44
  go_wp2
  go_ret
  exact ⟨ret_bool (by simp), rfl⟩

set_option maxHeartbeats 1000000 in
theorem cmpcompare_any (a b : ByteArray) (w : World) :
    Calls Try.prog 39 #[.string a, .string b] w fun e w' => e = .returned (.int .i64 (scmp a b)) ∧ w = w' := by
  have hg := gtr_slt a b
  have HG := Lib.hid hg
  clear hg
  go_enter Try.func39, Try.ntmps39
  go_wp2_with (go_at_call 44; refine (isnan_any _ _).mono ?_; rintro e w' ⟨rfl, rfl⟩)
  · have h1 : Op.bytesLess a.toList b.toList = true := by assumption
    go_ret
    exact ⟨ret_int (by unfold scmp; rw [if_pos (show slt a b = true from h1)]), rfl⟩
  · have h1 : Op.bytesLess a.toList b.toList = false := by assumption
    have h2 : (!a.toList == b.toList) = true := by assumption
    go_ret
    refine ⟨ret_int ?_, rfl⟩
    have hg := HG.out
    rw [h1, Bool.false_or, h2] at hg
    unfold scmp
    rw [if_neg (show ¬ slt a b = true by rw [show slt a b = false from h1]; simp), if_pos hg.symm]
  · have h1 : Op.bytesLess a.toList b.toList = false := by assumption
    have h2 : (!a.toList == b.toList) = false := by assumption
    go_ret
    refine ⟨ret_int ?_, rfl⟩
    have hg := HG.out
    rw [h1, Bool.false_or, h2] at hg
    unfold scmp
    rw [if_neg (show ¬ slt a b = true by rw [show slt a b = false from h1]; simp), if_neg (by rw [← hg]; simp)]

set_option maxHeartbeats 1000000 in
theorem against_any (a b : ByteArray) (w : World) :
    Calls Try.prog 26 #[.string a, .string b] w fun e w' => e = .returned (.int .i64 (scmp a b)) ∧ w = w' := by
  go_enter Try.func26, Try.ntmps26
  go_wp2_with (go_at_call 39; refine (cmpcompare_any _ _ _).mono ?_; rintro e w' ⟨rfl, rfl⟩)
  go_ret
  exact ⟨rfl, rfl⟩

set_option maxHeartbeats 1000000 in
theorem compare_any (a b : ByteArray) (w : World) :
    Calls Try.prog 9 #[.string a, .string b] w fun e w' => e = .returned (.int .i64 (scmp a b)) ∧ w = w' := by
  go_enter Try.func9, Try.ntmps9
  go_wp2_with (go_at_call 26; refine (against_any _ _ _).mono ?_; rintro e w' ⟨rfl, rfl⟩)
  go_ret
  exact ⟨rfl, rfl⟩
end Go.Proofs.Ytgicbpoicejmbaa
