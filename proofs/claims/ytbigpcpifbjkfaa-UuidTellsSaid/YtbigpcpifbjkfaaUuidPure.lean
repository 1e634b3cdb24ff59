/- What a UUID's text tells, and what a text's text is: plain laws, no program in sight. Conditions: those of each theorem. -/
import Derived.Test.YtbigpcpifbjkfaaUuidAlive
namespace Go.Proofs.Ytbigpcpifbjkfaa
open Go.RowKit Go.ChangeShapes Go.WideShapes Go.ChangeAt
theorem dig_hexd (d : Int) (h : 0 ≤ d ∧ d < 16) : dig (hexd d) = d := by
  unfold dig hexd
  split <;> split <;> first | omega | (split <;> first | omega | (split <;> omega))
theorem hexd_dig (x : Int) (h : 0 ≤ dig x) : hexd (dig x) = x ∨ (65 ≤ x ∧ x ≤ 70 ∧ hexd (dig x) = x + 32) := by
  unfold dig at h ⊢
  unfold hexd
  split at h
  · rename_i q; rw [if_pos q]; left; rw [if_pos (by omega)]; omega
  · rename_i q; rw [if_neg q]
    split at h
    · rename_i q2; rw [if_pos q2]; left; rw [if_neg (by omega)]; omega
    · rename_i q2; rw [if_neg q2]
      split at h
      · rename_i q3; rw [if_pos q3]; right; rw [if_neg (by omega)]; omega
      · omega
theorem chr_pos (b : List Int) (k : Nat) (h : k < 16) : chr b (pos k) = hexd (b.getD k 0 / 16) ∧ chr b (pos k + 1) = hexd (b.getD k 0 % 16) := by
  obtain ⟨h1, h2, h3, h4, h5, h6⟩ := pos_facts k h
  constructor
  · rw [chr, h1, h3, nib, if_neg (by simp), if_pos (by omega), show 2 * k / 2 = k by omega]
  · rw [chr, h2, h4, nib, if_neg (by simp), if_neg (by omega), show (2 * k + 1) / 2 = k by omega]
theorem nib_rng (b : List Int) (hl : b.length = 16) (hb : ∀ x ∈ b, 0 ≤ x ∧ x < 256) (n : Nat) : 0 ≤ nib b n ∧ nib b n < 16 := by
  have : 0 ≤ b.getD (n / 2) 0 ∧ b.getD (n / 2) 0 < 256 := by
    by_cases h : n / 2 < b.length
    · rw [List.getD, List.getElem?_eq_getElem h]
      exact hb _ (List.getElem_mem _)
    · rw [List.getD, List.getElem?_eq_none (by omega)]
      simp
  unfold nib
  split <;> omega
theorem chr_rng (b : List Int) (hl : b.length = 16) (hb : ∀ x ∈ b, 0 ≤ x ∧ x < 256) (i : Nat) : 0 ≤ chr b i ∧ chr b i < 256 := by
  unfold chr
  split
  · omega
  · have := nib_rng b hl hb (cnt i)
    unfold hexd
    split <;> omega
theorem txt_size (b : List Int) : (strOfNums (txt b)).size = 36 := by rw [strOfNums_size, txt_len]
theorem ch_txt (b : List Int) (hl : b.length = 16) (hb : ∀ x ∈ b, 0 ≤ x ∧ x < 256) (i : Nat) (hi : i < 36) : ch (strOfNums (txt b)) i = chr b i := by
  have hr := chr_rng b hl hb i
  rw [← ch_at (strOfNums (txt b)) i (by rw [txt_size]; exact hi)]
  have : ((strOfNums (txt b))[i]'(by rw [txt_size]; exact hi)) = UInt8.ofNat (chr b i).toNat := by
    show ((strOfNums (txt b)).data[i]'_) = _
    simp [strOfNums, txt]
  rw [this, UInt8.toNat_ofNat']
  omega
theorem okAll_txt (b : List Int) (hl : b.length = 16) (hb : ∀ x ∈ b, 0 ≤ x ∧ x < 256) : okAll (strOfNums (txt b)) = true := by
  refine List.all_eq_true.2 fun i hi => ?_
  have hi : i < 36 := by simpa using hi
  have hn := nib_rng b hl hb (cnt i)
  rw [okAt, ch_txt b hl hb i hi, chr]
  split
  · simp
  · rw [dig_hexd _ hn]
    simpa using hn.1
theorem dec_txt (b : List Int) (hl : b.length = 16) (hb : ∀ x ∈ b, 0 ≤ x ∧ x < 256) : dec (strOfNums (txt b)) = b := by
  apply List.ext_getElem
  · rw [dec_len, hl]
  · intro k h1 h2
    have hk : k < 16 := by omega
    obtain ⟨p1, p2, p3, p4, p5, p6⟩ := pos_facts k hk
    obtain ⟨e1, e2⟩ := chr_pos b k hk
    have hx := hb b[k] (List.getElem_mem _)
    have hg : b.getD k 0 = b[k] := by simp [List.getD, List.getElem?_eq_getElem h2]
    rw [hg] at e1 e2
    simp only [dec, List.getElem_map, List.getElem_range]
    rw [ch_txt b hl hb _ (by omega), ch_txt b hl hb _ (by omega), e1, e2, dig_hexd _ (by omega), dig_hexd _ (by omega)]
    omega
theorem parsed_txt (b : List Int) (hl : b.length = 16) (hb : ∀ x ∈ b, 0 ≤ x ∧ x < 256) : parsed (strOfNums (txt b)) = (b, 0) := by
  rw [parsed, if_pos ⟨txt_size b, okAll_txt b hl hb⟩, dec_txt b hl hb]
theorem nib_dec (s : ByteArray) (h : okAll s = true) (i : Nat) (hi : i < 36) (hd : dash i = false) : nib (dec s) (cnt i) = dig (ch s i) := by
  obtain ⟨_, hc⟩ := cnt_not i hi hd
  have hp := pn_cnt i hi hd
  have hk : cnt i / 2 < 16 := by omega
  obtain ⟨p1, p2, _, _, p5, _⟩ := pos_facts (cnt i / 2) hk
  have hall := List.all_eq_true.1 h
  have o1 := hall (pos (cnt i / 2)) (by simp; omega)
  have o2 := hall (pos (cnt i / 2) + 1) (by simp; omega)
  rw [okAt, p1] at o1
  rw [okAt, p2] at o2
  simp only [Bool.false_eq_true, if_false, decide_eq_true_eq] at o1 o2
  have q1 := dig_lt (ch s (pos (cnt i / 2)))
  have q2 := dig_lt (ch s (pos (cnt i / 2) + 1))
  have hg : (dec s).getD (cnt i / 2) 0 = 16 * dig (ch s (pos (cnt i / 2))) + dig (ch s (pos (cnt i / 2) + 1)) := by
    simp [dec, List.getD, hk]
  unfold pn at hp
  rw [nib, hg]
  split
  · rename_i q
    rw [q, Nat.add_zero] at hp
    rw [hp] at q1 o1 q2 o2 ⊢
    omega
  · rename_i q
    rw [show cnt i % 2 = 1 by omega] at hp
    rw [hp] at q2 o2 ⊢
    omega
theorem same_or_great (s : ByteArray) (h : okAll s = true) (i : Nat) (hi : i < 36) : chr (dec s) i = ch s i ∨ (65 ≤ ch s i ∧ ch s i ≤ 70 ∧ chr (dec s) i = ch s i + 32) := by
  have ho := List.all_eq_true.1 h i (by simpa using hi)
  unfold chr
  cases hd : dash i with
  | true =>
    rw [okAt, hd] at ho
    simp at ho
    left
    simp [ho]
  | false =>
    rw [okAt, hd] at ho
    simp at ho
    rw [nib_dec s h i hi hd]
    simpa using hexd_dig (ch s i) ho
end Go.Proofs.Ytbigpcpifbjkfaa
