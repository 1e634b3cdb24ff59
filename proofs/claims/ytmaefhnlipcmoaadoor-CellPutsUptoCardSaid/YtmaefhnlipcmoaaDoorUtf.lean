/- Code points in bytes, forth and back: plain laws. Conditions: none. -/
import Derived.Lib.DecodeN
import Derived.Lib.SpaceU
import Derived.Lib.TrimU
import Derived.Lib.ValidU
import Derived.Shelf.Unicode.DecodeSlow
namespace Go.Proofs.YtmaefhnlipcmoaaDoor
open Go.Lib
/-- the code point p stands in the bytes B, of which there are n, from i on, in k bytes -/
def At (B : Nat → Nat) (n i p k : Nat) : Prop :=
  (k = 1 ∧ p < 128 ∧ i + 1 ≤ n ∧ B i = p) ∨
  (k = 2 ∧ 128 ≤ p ∧ p < 2048 ∧ i + 2 ≤ n ∧ B i = 192 + p / 64 ∧ B (i + 1) = 128 + p % 64) ∨
  (k = 3 ∧ 2048 ≤ p ∧ p < 65536 ∧ (p < 55296 ∨ 57344 ≤ p) ∧ i + 3 ≤ n ∧ B i = 224 + p / 4096 ∧ B (i + 1) = 128 + p / 64 % 64 ∧ B (i + 2) = 128 + p % 64) ∨
  (k = 4 ∧ 65536 ≤ p ∧ p ≤ 1114111 ∧ i + 4 ≤ n ∧ B i = 240 + p / 262144 ∧ B (i + 1) = 128 + p / 4096 % 64 ∧ B (i + 2) = 128 + p / 64 % 64 ∧ B (i + 3) = 128 + p % 64)
def dec (B : Nat → Nat) (n i : Nat) : Nat × Nat := decodeN (n - i) (B i) (B (i + 1)) (B (i + 2)) (B (i + 3))
set_option maxHeartbeats 4000000 in
theorem dec_of_at {B : Nat → Nat} {n i p k : Nat} (h : At B n i p k) : dec B n i = (p, k) := by
  unfold dec decodeN
  rcases h with ⟨rfl, h⟩ | ⟨rfl, h⟩ | ⟨rfl, h⟩ | ⟨rfl, h⟩
  · rw [if_pos (by omega)]
    rw [h.2.2]
  · rw [if_neg (by omega), if_pos (by omega), if_pos (by omega)]
    exact Prod.ext (by simp only; omega) rfl
  · rw [if_neg (by omega), if_neg (by omega), if_pos (by omega), if_pos (by omega)]
    exact Prod.ext (by simp only; omega) rfl
  · rw [if_neg (by omega), if_neg (by omega), if_neg (by omega), if_pos (by omega), if_pos (by omega)]
    exact Prod.ext (by simp only; omega) rfl
set_option maxHeartbeats 4000000 in
theorem at_of_dec {B : Nat → Nat} {n i : Nat} (hb : ∀ j, B j < 256) (hi : i < n) (h : ¬ ((dec B n i).1 = 65533 ∧ (dec B n i).2 < 3)) : At B n i (dec B n i).1 (dec B n i).2 := by
  have h0 := hb i
  have h1 := hb (i + 1)
  have h2 := hb (i + 2)
  have h3 := hb (i + 3)
  unfold dec decodeN at h ⊢
  split
  · exact .inl ⟨rfl, by assumption, by omega, rfl⟩
  · split
    · split
      · exact .inr (.inl ⟨rfl, by simp only; omega, by simp only; omega, by omega, by simp only; omega, by simp only; omega⟩)
      · rename_i g1 g2 g3
        rw [if_neg g1, if_pos g2, if_neg g3] at h
        exact absurd ⟨rfl, by simp⟩ h
    · split
      · split
        · exact .inr (.inr (.inl ⟨rfl, by simp only; omega, by simp only; omega, by simp only; omega, by omega, by simp only; omega, by simp only; omega, by simp only; omega⟩))
        · rename_i g1 g2 g3 g4
          rw [if_neg g1, if_neg g2, if_pos g3, if_neg g4] at h
          exact absurd ⟨rfl, by simp⟩ h
      · split
        · split
          · exact .inr (.inr (.inr ⟨rfl, by simp only; omega, by simp only; omega, by omega, by simp only; omega, by simp only; omega, by simp only; omega, by simp only; omega⟩))
          · rename_i g1 g2 g3 g4 g5
            rw [if_neg g1, if_neg g2, if_neg g3, if_pos g4, if_neg g5] at h
            exact absurd ⟨rfl, by simp⟩ h
        · rename_i g1 g2 g3 g4
          rw [if_neg g1, if_neg g2, if_neg g3, if_neg g4] at h
          exact absurd ⟨rfl, by simp⟩ h
def st (B : Nat → Nat) (e : Nat) : Nat :=
  if e < 2 then 0 else if B (e - 2) / 64 ≠ 2 then e - 2 else if e < 3 then 0 else if B (e - 3) / 64 ≠ 2 then e - 3 else if e < 4 then 0 else if B (e - 4) / 64 ≠ 2 then e - 4 else if e < 5 then 0 else e - 5
def decLast (B : Nat → Nat) (e : Nat) : Nat × Nat :=
  if e = 0 then (65533, 0) else if B (e - 1) < 128 then (B (e - 1), 1)
  else if st B e + (dec B e (st B e)).2 = e then dec B e (st B e) else (65533, 1)
theorem At.shorter {B : Nat → Nat} {n i p k : Nat} (h : At B n i p k) {m : Nat} (hm : i + k ≤ m) : At B m i p k := by
  rcases h with ⟨rfl, h⟩ | ⟨rfl, h⟩ | ⟨rfl, h⟩ | ⟨rfl, h⟩
  · exact .inl ⟨rfl, h.1, hm, h.2.2⟩
  · exact .inr (.inl ⟨rfl, h.1, h.2.1, hm, h.2.2.2⟩)
  · exact .inr (.inr (.inl ⟨rfl, h.1, h.2.1, h.2.2.1, hm, h.2.2.2.2⟩))
  · exact .inr (.inr (.inr ⟨rfl, h.1, h.2.1, hm, h.2.2.2⟩))
theorem At.end_le {B : Nat → Nat} {n i p k : Nat} (h : At B n i p k) : i + k ≤ n ∧ 1 ≤ k ∧ k ≤ 4 := by
  rcases h with ⟨rfl, h⟩ | ⟨rfl, h⟩ | ⟨rfl, h⟩ | ⟨rfl, h⟩ <;> omega
theorem At.not_err {B : Nat → Nat} {n i p k : Nat} (h : At B n i p k) : ¬ (p = 65533 ∧ k < 3) := by
  rcases h with ⟨rfl, h⟩ | ⟨rfl, h⟩ | ⟨rfl, h⟩ | ⟨rfl, h⟩ <;> omega
theorem decLast_of_at {B : Nat → Nat} {n i p k e : Nat} (h : At B n i p k) (he : i + k = e) : decLast B e = (p, k) := by
  have hd := dec_of_at (h.shorter (m := e) (by omega))
  unfold decLast
  have hk := h.end_le
  rw [if_neg (by omega)]
  rcases h with ⟨rfl, h⟩ | ⟨rfl, h⟩ | ⟨rfl, h⟩ | ⟨rfl, h⟩
  · have : e - 1 = i := by omega
    rw [this, if_pos (by omega), h.2.2]
  · have q1 : e - 1 = i + 1 := by omega
    have q2 : e - 2 = i := by omega
    have hs : st B e = i := by
      unfold st
      rw [if_neg (by omega), q2, if_pos (by omega)]
    rw [q1, if_neg (by omega), hs, hd, if_pos he]
  · have q1 : e - 1 = i + 2 := by omega
    have q2 : e - 2 = i + 1 := by omega
    have q3 : e - 3 = i := by omega
    have hs : st B e = i := by
      unfold st
      rw [if_neg (by omega), q2, if_neg (by omega), if_neg (by omega), q3, if_pos (by omega)]
    rw [q1, if_neg (by omega), hs, hd, if_pos he]
  · have q1 : e - 1 = i + 3 := by omega
    have q2 : e - 2 = i + 2 := by omega
    have q3 : e - 3 = i + 1 := by omega
    have q4 : e - 4 = i := by omega
    have hs : st B e = i := by
      unfold st
      rw [if_neg (by omega), q2, if_neg (by omega), if_neg (by omega), q3, if_neg (by omega), if_neg (by omega), q4, if_pos (by omega)]
    rw [q1, if_neg (by omega), hs, hd, if_pos he]
theorem st_lt {B : Nat → Nat} {e : Nat} (h : 0 < e) : st B e < e := by
  unfold st
  repeat' split
  all_goals omega
theorem at_of_decLast {B : Nat → Nat} {e : Nat} (hb : ∀ j, B j < 256) (he : 0 < e) (h : ¬ ((decLast B e).1 = 65533 ∧ (decLast B e).2 < 3)) :
    At B e (e - (decLast B e).2) (decLast B e).1 (decLast B e).2 := by
  unfold decLast at h ⊢
  rw [if_neg (by omega)] at h ⊢
  split
  · rename_i g
    exact .inl ⟨rfl, g, by omega, rfl⟩
  · rename_i g
    rw [if_neg g] at h
    split
    · rename_i g2
      rw [if_pos g2] at h
      have := at_of_dec hb (st_lt he) h
      rwa [show e - (dec B e (st B e)).2 = st B e by omega]
    · rename_i g2
      rw [if_neg g2] at h
      exact absurd ⟨rfl, by simp⟩ h

def byt (s : ByteArray) (j : Nat) : Nat := (s.get! j).toNat
theorem byt_lt (s : ByteArray) (j : Nat) : byt s j < 256 := UInt8.toNat_lt _
theorem decodeN_congr {n b0 b1 b2 b3 c1 c2 c3 : Nat} (h1 : 1 < n → b1 = c1) (h2 : 2 < n → b2 = c2) (h3 : 3 < n → b3 = c3) : decodeN n b0 b1 b2 b3 = decodeN n b0 c1 c2 c3 := by
  by_cases g1 : 1 < n
  · rw [h1 g1]
    by_cases g2 : 2 < n
    · rw [h2 g2]
      by_cases g3 : 3 < n
      · rw [h3 g3]
      · simp [decodeN, g3]
    · have g3 : ¬ 3 < n := by omega
      simp [decodeN, g2, g3]
  · have g2 : ¬ 2 < n := by omega
    have g3 : ¬ 3 < n := by omega
    simp [decodeN, g1, g2, g3]
theorem byt_data (s : ByteArray) (j : Nat) : byt s j = (s.data.toList.getD j 0).toNat := by
  unfold byt
  congr 1
  cases s with
  | mk d =>
    simp only [ByteArray.get!, List.getD_eq_getElem?_getD, Array.getElem?_toList]
    by_cases h : j < d.size
    · simp [h]
    · simp [h]
      rfl
theorem decode_dec (s : ByteArray) (i : Nat) : Utf8.decode s i = dec (byt s) s.size i := by rw [decode_at]; rfl
theorem size_data (s : ByteArray) : s.data.toList.length = s.size := (Lib.size_eq s).symm
theorem extract_list (s : ByteArray) (a b : Nat) : (s.extract a b).data.toList = (s.data.toList.take b).drop a := by
  rw [ByteArray.data_extract, Array.toList_extract]
  simp [List.drop_take]
theorem byt_drop (s : ByteArray) (a j : Nat) : byt (s.extract a s.size) j = byt s (a + j) := by
  rw [byt_data, byt_data, extract_list]
  simp only [List.getD_eq_getElem?_getD, List.getElem?_drop]
  congr 2
  rw [List.take_of_length_le (by rw [size_data]; exact Nat.le_refl _)]
theorem decodeGo_dec (s : ByteArray) (a : Nat) (h : a < s.size) : Lib.decodeGo (s.extract a s.size) = dec (byt s) s.size a := by
  have hz : (s.extract a s.size).size = s.size - a := by rw [← size_data, extract_list]; simp
  unfold Lib.decodeGo
  rw [if_neg (by omega), decode_dec]
  unfold dec
  rw [hz, byt_drop, byt_drop, byt_drop, byt_drop]
  rfl
theorem decodeLast_dec (s : ByteArray) (e : Nat) (h : e ≤ s.size) : Lib.decodeLastL (s.extract 0 e).data.toList = decLast (byt s) e := by
  rw [extract_list, List.drop_zero]
  have hl : (s.data.toList.take e).length = e := by rw [List.length_take, size_data]; omega
  have hg : ∀ j, j < e → ((s.data.toList.take e).getD j 0).toNat = byt s j := by
    intro j hj
    rw [byt_data]
    simp [List.getD_eq_getElem?_getD, hj]
  generalize hL : s.data.toList.take e = l at hl hg ⊢
  unfold Lib.decodeLastL decLast
  by_cases h0 : e = 0
  · subst h0
    rw [if_pos rfl, if_pos (List.eq_nil_of_length_eq_zero hl)]
    rfl
  · have hne : l ≠ [] := by rintro rfl; simp at hl; omega
    rw [if_neg hne, if_neg h0, hl, hg (e - 1) (by omega)]
    by_cases h1 : byt s (e - 1) < 128
    · rw [if_pos h1, if_pos h1]
    · rw [if_neg h1, if_neg h1]
      have rs : ∀ j, j < e → (Lib.runeStartB (l.getD j 0) = true ↔ byt s j / 64 ≠ 2) := by
        intro j hj
        unfold Lib.runeStartB
        rw [hg j hj]
        simp
      have hs : Lib.lastStart l = st (byt s) e := by
        unfold Lib.lastStart st
        simp only [hl]
        by_cases e2 : e < 2
        · rw [if_pos e2, if_pos e2]
        · rw [if_neg e2, if_neg e2]
          by_cases q2 : byt s (e - 2) / 64 ≠ 2
          · rw [if_pos ((rs _ (by omega)).2 q2), if_pos q2]
          · rw [if_neg (fun h => q2 ((rs _ (by omega)).1 h)), if_neg q2]
            by_cases e3 : e < 3
            · rw [if_pos e3, if_pos e3]
            · rw [if_neg e3, if_neg e3]
              by_cases q3 : byt s (e - 3) / 64 ≠ 2
              · rw [if_pos ((rs _ (by omega)).2 q3), if_pos q3]
              · rw [if_neg (fun h => q3 ((rs _ (by omega)).1 h)), if_neg q3]
                by_cases e4 : e < 4
                · rw [if_pos e4, if_pos e4]
                · rw [if_neg e4, if_neg e4]
                  by_cases q4 : byt s (e - 4) / 64 ≠ 2
                  · rw [if_pos ((rs _ (by omega)).2 q4), if_pos q4]
                  · rw [if_neg (fun h => q4 ((rs _ (by omega)).1 h)), if_neg q4]
      have hd : Lib.decodeL (l.drop (Lib.lastStart l)) = dec (byt s) e (st (byt s) e) := by
        rw [hs]
        have hlt := st_lt (B := byt s) (e := e) (by omega)
        generalize st (byt s) e = a at hlt ⊢
        unfold Lib.decodeL
        rw [decode_dec]
        have hz : (ByteArray.mk (l.drop a).toArray).size = e - a := by rw [← size_data]; simp [hl]
        have hb : ∀ j, a + j < e → byt ⟨(l.drop a).toArray⟩ j = byt s (a + j) := by
          intro j hj
          rw [byt_data, ← hg _ hj]
          simp [List.getD_eq_getElem?_getD]
        unfold dec
        rw [hz, Nat.sub_zero]
        have := hb 0 (by omega)
        simp only [Nat.add_zero, Nat.zero_add] at this ⊢
        rw [this]
        exact decodeN_congr (fun g => hb 1 (by omega)) (fun g => hb 2 (by omega)) (fun g => hb 3 (by omega))
      rw [hs] at hd
      simp only [hs]
      rw [hd]
      rfl
end Go.Proofs.YtmaefhnlipcmoaaDoor
