/- A text as a chain of code points: what is valid, how many code points there are. Conditions: none. -/
import Derived.Test.YtmaefhnlipcmoaaDoorUtf
import Derived.Lib.RuneCount
namespace Go.Proofs.YtmaefhnlipcmoaaDoor
open Go.Lib
theorem decodeL_dec (s : ByteArray) (i : Nat) : Lib.decodeL (s.data.toList.drop i) = dec (byt s) s.size i := by
  unfold Lib.decodeL
  rw [decode_dec]
  have hz : (ByteArray.mk (s.data.toList.drop i).toArray).size = s.size - i := by rw [← size_data]; simp
  have hb : ∀ j, byt ⟨(s.data.toList.drop i).toArray⟩ j = byt s (i + j) := by
    intro j
    rw [byt_data, byt_data]
    simp [List.getD_eq_getElem?_getD]
  unfold dec
  rw [hz, Nat.sub_zero]
  have := hb 0
  simp only [Nat.add_zero, Nat.zero_add] at this ⊢
  rw [this]
  exact decodeN_congr (fun _ => hb 1) (fun _ => hb 2) (fun _ => hb 3)
/-- from place i on: is all decoded? -/
def valids (B : Nat → Nat) (n : Nat) : Nat → Nat → Bool
  | 0, _ => true
  | f + 1, i => if n ≤ i then true else if (dec B n i).1 = 65533 ∧ (dec B n i).2 = 1 then false else valids B n f (i + (dec B n i).2)
theorem validGo_dec (s : ByteArray) : ∀ f i, Lib.validGoD f (s.data.toList.drop i) = valids (byt s) s.size f i
  | 0, _ => rfl
  | f + 1, i => by
    unfold Lib.validGoD valids
    by_cases h : s.size ≤ i
    · rw [if_pos h, if_pos (List.drop_of_length_le (by rw [size_data]; exact h))]
    · have hne : s.data.toList.drop i ≠ [] := by
        intro e
        have := congrArg List.length e
        rw [List.length_drop, size_data] at this
        simp at this
        omega
      rw [if_neg h, if_neg hne, decodeL_dec s i, List.drop_drop]
      split
      · rfl
      · exact validGo_dec s f _
theorem validD_dec (s : ByteArray) : Lib.validD s.data.toList = valids (byt s) s.size s.size 0 := by
  unfold Lib.validD
  rw [size_data]
  exact validGo_dec s s.size 0
/-- code points, one behind another: where each begins, which it is -/
def Chain (B : Nat → Nat) (n m : Nat) (P X : Nat → Nat) : Prop := P 0 = 0 ∧ P m = n ∧ ∀ i < m, P i < P (i + 1) ∧ At B n (P i) (X i) (P (i + 1) - P i)
theorem Chain.dec {B : Nat → Nat} {n m : Nat} {P X : Nat → Nat} (h : Chain B n m P X) {i : Nat} (hi : i < m) : dec B n (P i) = (X i, P (i + 1) - P i) := dec_of_at (h.2.2 i hi).2
theorem Chain.mono {B : Nat → Nat} {n m : Nat} {P X : Nat → Nat} (h : Chain B n m P X) : ∀ {i j : Nat}, i ≤ j → j ≤ m → P i ≤ P j := by
  intro i j hij
  induction j with
  | zero => intro _; obtain rfl : i = 0 := by omega
            exact Nat.le_refl _
  | succ j ih =>
    intro hj
    by_cases e : i = j + 1
    · subst e; exact Nat.le_refl _
    · have := ih (by omega) (by omega)
      have := (h.2.2 j (by omega)).1
      omega
theorem Chain.lt {B : Nat → Nat} {n m : Nat} {P X : Nat → Nat} (h : Chain B n m P X) {i : Nat} (hi : i < m) : P i < n := by
  have := (h.2.2 i hi).1
  have := h.mono (i := i + 1) (j := m) (by omega) (by omega)
  rw [h.2.1] at this
  omega
theorem Chain.ge {B : Nat → Nat} {n m : Nat} {P X : Nat → Nat} (h : Chain B n m P X) : ∀ {i : Nat}, i ≤ m → i ≤ P i := by
  intro i
  induction i with
  | zero => intro _; omega
  | succ i ih =>
    intro hi
    have := ih (by omega)
    have := (h.2.2 i (by omega)).1
    omega
theorem Chain.valids {B : Nat → Nat} {n m : Nat} {P X : Nat → Nat} (h : Chain B n m P X) : ∀ f i, i ≤ m → valids B n f (P i) = true
  | 0, _, _ => rfl
  | f + 1, i, hi => by
    unfold Proofs.YtmaefhnlipcmoaaDoor.valids
    by_cases e : i = m
    · subst e
      rw [if_pos (by rw [h.2.1]; exact Nat.le_refl _)]
    · have hl : i < m := by omega
      have h1 := h.lt hl
      have h2 := (h.2.2 i hl).2.not_err
      have h3 := (h.2.2 i hl).1
      rw [if_neg (by omega), h.dec hl]
      simp only
      rw [if_neg (by omega), show P i + (P (i + 1) - P i) = P (i + 1) by omega]
      exact h.valids f (i + 1) (by omega)
theorem Chain.count {s : ByteArray} {m : Nat} {P X : Nat → Nat} (h : Chain (byt s) s.size m P X) : ∀ f i, i ≤ m → s.size ≤ P i + f → Lib.runeCountFrom s f (P i) = m - i
  | 0, i, hi, hf => by
    unfold Lib.runeCountFrom
    have : i = m := by
      rcases Nat.lt_or_ge i m with g | g
      · have := h.lt g; omega
      · omega
    omega
  | f + 1, i, hi, hf => by
    unfold Lib.runeCountFrom
    by_cases e : i = m
    · subst e
      rw [if_neg (by rw [h.2.1]; omega)]
      omega
    · have hl : i < m := by omega
      have h1 := h.lt hl
      have h3 := (h.2.2 i hl).1
      rw [if_pos h1, decode_dec, h.dec hl]
      simp only
      rw [show P i + (P (i + 1) - P i) = P (i + 1) by omega, h.count f (i + 1) (by omega) (by omega)]
      omega
theorem Chain.runeCount {s : ByteArray} {m : Nat} {P X : Nat → Nat} (h : Chain (byt s) s.size m P X) : Lib.runeCount s = m := by
  unfold Lib.runeCount
  have := h.count s.size 0 (by omega) (by omega)
  rw [h.1] at this
  exact this
theorem Chain.validD {s : ByteArray} {m : Nat} {P X : Nat → Nat} (h : Chain (byt s) s.size m P X) : Lib.validD s.data.toList = true := by
  rw [validD_dec]
  have := h.valids s.size 0 (by omega)
  rwa [h.1] at this
/-- what is valid is a chain -/
theorem chain_of {B : Nat → Nat} {n : Nat} (hb : ∀ j, B j < 256) : ∀ (f i : Nat), n ≤ i + f → i ≤ n → valids B n f i = true → ∃ (m : Nat) (P X : Nat → Nat), P 0 = i ∧ P m = n ∧ ∀ k < m, P k < P (k + 1) ∧ At B n (P k) (X k) (P (k + 1) - P k)
  | 0, i, h1, h2, _ => ⟨0, fun _ => i, fun _ => 0, rfl, by simp; omega, by intro k hk; omega⟩
  | f + 1, i, h1, h2, hv => by
    unfold Proofs.YtmaefhnlipcmoaaDoor.valids at hv
    by_cases e : n ≤ i
    · exact ⟨0, fun _ => i, fun _ => 0, rfl, by simp; omega, by intro k hk; omega⟩
    · rw [if_neg e] at hv
      split at hv
      · cases hv
      · rename_i g
        have hd := Lib.decodeN_ge1 (n - i) (B i) (B (i + 1)) (B (i + 2)) (B (i + 3))
        have g2 : ¬ ((dec B n i).1 = 65533 ∧ (dec B n i).2 < 3) := by
          intro ⟨q1, q2⟩
          have : (dec B n i).2 = 1 ∨ (dec B n i).2 = 2 := by unfold dec at q2 ⊢; omega
          rcases this with q3 | q3
          · exact g ⟨q1, q3⟩
          · unfold dec decodeN at q1 q3
            repeat' split at q1
            all_goals (first | (simp only at q3; omega) | (simp_all; done) | (simp_all; omega))
        have ha := at_of_dec hb (by omega) g2
        have hl := ha.end_le
        obtain ⟨m, P, X, p0, pm, hc⟩ := chain_of hb f (i + (dec B n i).2) (by omega) (by omega) hv
        refine ⟨m + 1, fun k => match k with | 0 => i | k + 1 => P k, fun k => match k with | 0 => (dec B n i).1 | k + 1 => X k, rfl, pm, ?_⟩
        intro k hk
        cases k with
        | zero =>
          simp only [p0]
          rw [show i + (dec B n i).2 - i = (dec B n i).2 by omega]
          exact ⟨by omega, ha⟩
        | succ k => exact hc k (by omega)
theorem chain_valid {s : ByteArray} (h : Lib.validD s.data.toList = true) : ∃ m P X, Chain (byt s) s.size m P X := by
  rw [validD_dec] at h
  exact chain_of (byt_lt s) s.size 0 (by omega) (by omega) h
end Go.Proofs.YtmaefhnlipcmoaaDoor
