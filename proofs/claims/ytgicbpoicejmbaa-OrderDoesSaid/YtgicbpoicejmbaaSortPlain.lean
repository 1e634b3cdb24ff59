/- Plain laws of sorting and dropping what comes twice: sorted is what has been put one by one. No program in sight. Conditions: none. -/
import Derived.Test.YtgicbpoicejmbaaPlain
import Derived.Lib.SlicesCompact
import Derived.Sort.Statements
namespace Go.Proofs.Ytgicbpoicejmbaa
open Go.Sort

/-- the order of two byte rows -/
def blt (x y : List UInt8) : Bool := slt ⟨⟨x⟩⟩ ⟨⟨y⟩⟩
theorem blt_irrefl (x : List UInt8) : blt x x = false := less_irrefl _
theorem blt_trans {x y z : List UInt8} (h1 : blt x y = true) (h2 : blt y z = true) : blt x z = true := slt_trans _ _ _ h1 h2
theorem blt_asymm {x y : List UInt8} (h : blt x y = true) : blt y x = false := slt_asymm _ _ h
theorem blt_total {x y : List UInt8} (h1 : blt x y = false) (h2 : blt y x = false) : x = y := by
  have := slt_total ⟨⟨x⟩⟩ ⟨⟨y⟩⟩ h1 h2
  simpa using this
theorem ble_trans {x y z : List UInt8} (h1 : blt y x = false) (h2 : blt z y = false) : blt z x = false := by
  cases h : blt z x with
  | false => rfl
  | true =>
    cases h3 : blt y z with
    | false =>
      obtain rfl := blt_total h2 h3
      rw [h] at h1; cases h1
    | true =>
      have := blt_trans h3 h
      rw [h1] at this; cases this
/-- the sorted row -/
def srt (d : List (List UInt8)) : List (List UInt8) := d.mergeSort fun x y => !blt y x
theorem srt_len (d : List (List UInt8)) : (srt d).length = d.length := (List.mergeSort_perm d _).length_eq
theorem srt_mem {d : List (List UInt8)} {x : List UInt8} : x ∈ srt d ↔ x ∈ d := (List.mergeSort_perm d _).mem_iff
theorem srt_pw (d : List (List UInt8)) : (srt d).Pairwise fun x y => blt y x = false := by
  have h := List.pairwise_mergeSort (le := fun x y : List UInt8 => !blt y x) (fun a b c h1 h2 => by
    simp only [Bool.not_eq_true'] at *
    exact ble_trans h1 h2) (fun a b => by
    cases h1 : blt b a
    · rfl
    · simp [blt_asymm h1]) d
  exact h.imp fun h => by simpa using h
/-- what is kept of the first m of a row -/
theorem compact_step (zs : List (List UInt8)) (hp : zs.Pairwise fun x y => blt y x = false) : ∀ m, m ≤ zs.length →
    (Lib.compactUpTo zs.toArray m).Pairwise (fun x y => blt x y = true) ∧ ∀ x, x ∈ Lib.compactUpTo zs.toArray m ↔ x ∈ zs.take m
  | 0, _ => by simp [Lib.compactUpTo]
  | m + 1, hm => by
    obtain ⟨ih1, ih2⟩ := compact_step zs hp m (by omega)
    have hg : zs.toArray[m]! = zs[m] := by simp [getElem!_pos, show m < zs.length by omega]
    have ht : zs.take (m + 1) = zs.take m ++ [zs[m]] := List.take_succ_eq_append_getElem (by omega)
    rw [Lib.compactUpTo_succ, hg]
    by_cases h0 : m = 0
    · subst h0
      have : Lib.keeps zs.toArray 0 = true := by simp [Lib.keeps]
      rw [this, ht]
      simp [Lib.compactUpTo]
    · have hg1 : zs.toArray[m - 1]! = zs[m - 1] := by simp [getElem!_pos, show m - 1 < zs.length by omega]
      have hle := (List.pairwise_iff_getElem.1 hp) (m - 1) m (by omega) (by omega) (by omega)
      by_cases he : zs[m] = zs[m - 1]
      · have : Lib.keeps zs.toArray m = false := by simp [Lib.keeps, hg, hg1, h0, he]
        rw [this, ht]
        refine ⟨by simpa using ih1, fun x => ?_⟩
        have hin : zs[m] ∈ zs.take m := by
          rw [he, List.mem_take_iff_getElem]
          exact ⟨m - 1, by omega, rfl⟩
        simp only [Bool.false_eq_true, if_false, List.append_nil, List.mem_append, List.mem_singleton, ih2]
        constructor
        · exact .inl
        · rintro (h | rfl)
          · exact h
          · exact hin
      · have : Lib.keeps zs.toArray m = true := by simp [Lib.keeps, hg, hg1, he]
        rw [this]
        refine ⟨?_, fun x => by rw [ht]; simp only [if_true, List.mem_append, List.mem_singleton, ih2]⟩
        simp only [if_true]
        rw [List.pairwise_append]
        refine ⟨ih1, List.pairwise_singleton _ _, fun x hx y hy => ?_⟩
        obtain rfl : y = zs[m] := by simpa using hy
        have hx2 := (ih2 x).1 hx
        obtain ⟨i, hi, rfl⟩ := List.mem_take_iff_getElem.1 hx2
        have hxm : blt zs[m - 1] zs[i] = false := by
          by_cases h3 : i = m - 1
          · subst h3; exact blt_irrefl _
          · exact (List.pairwise_iff_getElem.1 hp) i (m - 1) (by omega) (by omega) (by omega)
        have hlt : blt zs[m - 1] zs[m] = true := by
          cases h4 : blt zs[m - 1] zs[m]
          · exact absurd (blt_total hle h4) he
          · rfl
        cases h5 : blt zs[i] zs[m]
        · have h6 : blt zs[m] zs[m - 1] = false := hle
          cases h7 : blt zs[i] zs[m - 1]
          · have := blt_total hxm h7
            rw [← this, hlt] at h5; cases h5
          · rw [blt_trans h7 hlt] at h5; cases h5
        · rfl
/-- a row of strings, sorted, each once -/
def sortB (xs : List ByteArray) : List ByteArray := (Lib.compact (srt (xs.map fun s => s.data.toList))).map fun l => ⟨⟨l⟩⟩
theorem sortB_pw (xs : List ByteArray) : Pw (sortB xs) := by
  unfold sortB Pw Lib.compact
  rw [List.pairwise_map]
  exact (compact_step _ (srt_pw _) _ (Nat.le_refl _)).1
theorem sortB_mem (xs : List ByteArray) (s : ByteArray) : s ∈ sortB xs ↔ s ∈ xs := by
  unfold sortB Lib.compact
  rw [List.mem_map]
  constructor
  · rintro ⟨l, hl, rfl⟩
    rw [(compact_step _ (srt_pw _) _ (Nat.le_refl _)).2, List.take_length, srt_mem, List.mem_map] at hl
    obtain ⟨s, hs, rfl⟩ := hl
    exact hs
  · intro h
    refine ⟨s.data.toList, ?_, rfl⟩
    rw [(compact_step _ (srt_pw _) _ (Nat.le_refl _)).2, List.take_length, srt_mem, List.mem_map]
    exact ⟨s, h, rfl⟩
theorem sortB_len (xs : List ByteArray) : (sortB xs).length ≤ xs.length := by
  unfold sortB Lib.compact Lib.compactUpTo
  rw [List.length_map, List.length_map]
  refine Nat.le_trans (List.length_filter_le _ _) ?_
  rw [List.length_range, srt_len, List.length_map]
  exact Nat.le_refl _
/-- two lists that rise, of the same strings, are one -/
theorem pw_ext : ∀ {xs ys : List ByteArray}, Pw xs → Pw ys → (∀ s, s ∈ xs ↔ s ∈ ys) → xs = ys
  | [], [], _, _, _ => rfl
  | [], y :: ys, _, _, h => absurd ((h y).2 (List.mem_cons_self ..)) (by simp)
  | x :: xs, [], _, _, h => absurd ((h x).1 (List.mem_cons_self ..)) (by simp)
  | x :: xs, y :: ys, hx, hy, h => by
    unfold Pw at hx hy
    obtain ⟨a1, a2⟩ := List.pairwise_cons.1 hx
    obtain ⟨b1, b2⟩ := List.pairwise_cons.1 hy
    have e : x = y := by
      rcases List.mem_cons.1 ((h x).1 (List.mem_cons_self ..)) with e | e
      · exact e
      · rcases List.mem_cons.1 ((h y).2 (List.mem_cons_self ..)) with e2 | e2
        · exact e2.symm
        · have h1 := b1 x e
          rw [slt_asymm _ _ (a1 y e2)] at h1
          cases h1
    subst e
    refine congrArg (x :: ·) (pw_ext a2 b2 fun s => ?_)
    constructor
    · intro hs
      rcases List.mem_cons.1 ((h s).1 (List.mem_cons_of_mem _ hs)) with e | e
      · subst e
        have h1 := a1 s hs
        rw [less_irrefl] at h1
        cases h1
      · exact e
    · intro hs
      rcases List.mem_cons.1 ((h s).2 (List.mem_cons_of_mem _ hs)) with e | e
      · subst e
        have h1 := b1 s hs
        rw [less_irrefl] at h1
        cases h1
      · exact e
theorem sortB_fix {xs : List ByteArray} (h : Pw xs) : sortB xs = xs := pw_ext (sortB_pw _) h (sortB_mem xs)
theorem sortB_nil : sortB [] = [] := sortB_fix (by unfold Pw; exact List.Pairwise.nil)
/-- a list with one more string, if it is not there -/
theorem put_pw {ys : List ByteArray} (h : Pw ys) (hl : ys.length < 4096) (s : ByteArray) : putC ys s = 0 ∧ Pw (putL ys s) ∧ (∀ o, o ∈ putL ys s ↔ o = s ∨ o ∈ ys) ∧ (putL ys s).length ≤ ys.length + 1 := by
  have ho : okB ys = true := okB_pw.2 ⟨by omega, h⟩
  unfold putC putL
  rw [if_pos ho, if_pos ho]
  by_cases hh : hasB ys s = true
  · rw [if_pos hh, if_pos hh]
    have hm := (has_mem h).1 hh
    refine ⟨rfl, h, fun o => ⟨.inr, ?_⟩, by omega⟩
    rintro (rfl | h)
    · exact hm
    · exact h
  · rw [if_neg hh, if_neg hh, if_neg (by omega), if_neg (by omega)]
    have hn : s ∉ ys := fun e => hh ((has_mem h).2 e)
    exact ⟨rfl, ins_pw h hn, fun o => ins_mem, by rw [← ins, ins_len]; omega⟩
theorem putL_sort (xs : List ByteArray) (s : ByteArray) (hl : xs.length < 4096) : putC (sortB xs) s = 0 ∧ putL (sortB xs) s = sortB (xs ++ [s]) := by
  have hlen := sortB_len xs
  obtain ⟨h1, h2, h3, h4⟩ := put_pw (sortB_pw xs) (by omega) s
  refine ⟨h1, pw_ext h2 (sortB_pw _) fun o => ?_⟩
  rw [h3, sortB_mem, sortB_mem]
  simp [or_comm]
theorem hasB_sort (xs : List ByteArray) (s : ByteArray) : hasB (sortB xs) s = true ↔ s ∈ xs := by
  rw [has_mem (sortB_pw xs), sortB_mem]
theorem okB_sort (xs : List ByteArray) (hl : xs.length ≤ 4096) : okB (sortB xs) = true := okB_pw.2 ⟨Nat.le_trans (sortB_len xs) hl, sortB_pw xs⟩
end Go.Proofs.Ytgicbpoicejmbaa
