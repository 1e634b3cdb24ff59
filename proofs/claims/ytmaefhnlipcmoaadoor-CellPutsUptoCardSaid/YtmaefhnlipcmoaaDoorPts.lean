/- Code points as lists of numbers, and the bytes of a text: plain laws. Conditions: none. -/
import Derived.Test.YtmaefhnlipcmoaaDoorBoth
import Derived.Test.YtmaefhnlipcmoaaDoorRune
import Derived.Test.YtmaefhnlipcmoaaDoorChain
import Derived.Shelf.Bytes.SlSmallAll
import Derived.Lib.Hide
namespace Go.Proofs.YtmaefhnlipcmoaaDoor
open Go.RowKit Go.Lib
theorem byt_get (s : ByteArray) (i : Nat) (h : i < s.size) : byt s i = s[i].toNat := by
  unfold byt
  congr 1
  show s.get! i = _
  simp [ByteArray.get!, getElem!_pos, h]
  rfl
theorem isPoint_iff {x : Int} (h : isPoint x = true) : 0 ≤ x ∧ x ≤ 1114111 ∧ (x < 55296 ∨ 57343 < x) := by
  simp only [isPoint, Bool.and_eq_true, Bool.or_eq_true, decide_eq_true_eq] at h
  omega
theorem byt_str (L : List Int) (j : Nat) (h : 0 ≤ L.getD j 0 ∧ L.getD j 0 < 256) : byt (strOfNums L) j = (L.getD j 0).toNat := by
  rw [byt_data, strOfNums_data]
  simp only [List.getD_eq_getElem?_getD, List.getElem?_map] at h ⊢
  cases e : L[j]? with
  | none => simp
  | some x =>
    rw [e] at h
    simp only [Option.getD_some, Option.map_some] at h ⊢
    simp
    omega
set_option maxHeartbeats 4000000 in
theorem at_list (pre post : List Int) (x : Int) (hx : isPoint x = true) :
    At (byt (strOfNums (pre ++ encodeRuneZ x ++ post))) (strOfNums (pre ++ encodeRuneZ x ++ post)).size pre.length x.toNat (encodeRuneZ x).length := by
  obtain ⟨h0, h1, h2⟩ := isPoint_iff hx
  clear hx
  obtain ⟨k, rfl⟩ : ∃ k : Nat, x = k := ⟨x.toNat, by omega⟩
  rw [Int.toNat_natCast]
  have hz : (strOfNums (pre ++ encodeRuneZ (k : Int) ++ post)).size = pre.length + (encodeRuneZ (k : Int)).length + post.length := by
    rw [strOfNums_size]; simp; omega
  have hg : ∀ t, t < (encodeRuneZ (k : Int)).length → (pre ++ encodeRuneZ (k : Int) ++ post).getD (pre.length + t) 0 = (encodeRuneZ (k : Int)).getD t 0 := by
    intro t ht
    simp only [List.getD_eq_getElem?_getD]
    rw [List.getElem?_append_left (by simp; omega), List.getElem?_append_right (by omega), show pre.length + t - pre.length = t by omega]
  generalize hS : pre ++ encodeRuneZ (k : Int) ++ post = L at hz hg ⊢
  have hb : ∀ t, t < (encodeRuneZ (k : Int)).length → 0 ≤ (encodeRuneZ (k : Int)).getD t 0 ∧ (encodeRuneZ (k : Int)).getD t 0 < 256 → byt (strOfNums L) (pre.length + t) = ((encodeRuneZ (k : Int)).getD t 0).toNat := by
    intro t ht hr
    rw [byt_str L _ (by rw [hg t ht]; exact hr), hg t ht]
  have hb0 := hb 0
  have hb1 := hb 1
  have hb2 := hb 2
  have hb3 := hb 3
  clear hb hg
  by_cases c1 : (k : Int) < 128
  · rw [encodeRuneZ_one h0 (by omega)] at hz hb0 ⊢
    simp at hz hb0
    exact .inl ⟨rfl, by omega, by omega, by omega⟩
  · by_cases c2 : (k : Int) < 2048
    · rw [encodeRuneZ_two (by omega) (by omega)] at hz hb0 hb1 ⊢
      simp at hz hb0 hb1
      refine .inr (.inl ⟨rfl, by omega, by omega, by omega, ?_, ?_⟩)
      · rw [hb0 (by omega) (by omega)]; omega
      · rw [hb1 (by omega) (by omega)]; omega
    · by_cases c3 : (k : Int) < 65536
      · rw [encodeRuneZ_three (by omega)] at hz hb0 hb1 hb2 ⊢
        simp at hz hb0 hb1 hb2
        refine .inr (.inr (.inl ⟨rfl, by omega, by omega, by omega, by omega, ?_, ?_, ?_⟩))
        · rw [hb0 (by omega) (by omega)]; omega
        · rw [hb1 (by omega) (by omega)]; omega
        · rw [hb2 (by omega) (by omega)]; omega
      · rw [encodeRuneZ_four (by omega) h1] at hz hb0 hb1 hb2 hb3 ⊢
        simp at hz hb0 hb1 hb2 hb3
        refine .inr (.inr (.inr ⟨rfl, by omega, by omega, by omega, ?_, ?_, ?_, ?_⟩))
        · rw [hb0 (by omega) (by omega)]; omega
        · rw [hb1 (by omega) (by omega)]; omega
        · rw [hb2 (by omega) (by omega)]; omega
        · rw [hb3 (by omega) (by omega)]; omega
theorem enc_ge (x : Int) : 1 ≤ (encodeRuneZ x).length ∧ (encodeRuneZ x).length ≤ 4 := by
  unfold encodeRuneZ
  repeat' split
  all_goals simp
end Go.Proofs.YtmaefhnlipcmoaaDoor
