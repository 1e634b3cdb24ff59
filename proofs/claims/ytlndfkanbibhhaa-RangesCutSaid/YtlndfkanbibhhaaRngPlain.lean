/- The plain law of cuts: sorted, each once, those over the last point struck: these are the places where some set turns. No program in sight. Conditions: none. -/
import Derived.Test.YtlndfkanbibhhaaRngSort
import Derived.Lib.SlicesCompact
namespace Go.Proofs.Ytlndfkanbibhhaa
open Go.Sort
abbrev Up (l : List Int) : Prop := l.Pairwise fun x y => x < y
theorem srt_mem {d : List Int} {x : Int} : x ∈ srt d ↔ x ∈ d := (List.mergeSort_perm d _).mem_iff
theorem srt_pw (d : List Int) : (srt d).Pairwise fun x y => x ≤ y := by
  have h := List.pairwise_mergeSort (le := fun x y : Int => decide (x ≤ y)) (fun a b c h1 h2 => by simp at *; omega) (fun a b => by simp; omega) d
  exact h.imp fun h => by simpa using h
theorem compact_step (zs : List Int) (hp : zs.Pairwise fun x y => x ≤ y) : ∀ m, m ≤ zs.length → Up (Lib.compactUpTo zs.toArray m) ∧ ∀ x, x ∈ Lib.compactUpTo zs.toArray m ↔ x ∈ zs.take m
  | 0, _ => by simp [Lib.compactUpTo, Up]
  | m + 1, hm => by
    obtain ⟨ih1, ih2⟩ := compact_step zs hp m (by omega)
    have hg : zs.toArray[m]! = zs[m] := by simp [getElem!_pos, show m < zs.length by omega]
    have ht : zs.take (m + 1) = zs.take m ++ [zs[m]] := List.take_succ_eq_append_getElem (by omega)
    rw [Lib.compactUpTo_succ, hg]
    by_cases h0 : m = 0
    · subst h0
      have : Lib.keeps zs.toArray 0 = true := by simp [Lib.keeps]
      rw [this, ht]
      simp [Lib.compactUpTo, Up]
    · have hg1 : zs.toArray[m - 1]! = zs[m - 1] := by simp [getElem!_pos, show m - 1 < zs.length by omega]
      have hle := (List.pairwise_iff_getElem.1 hp) (m - 1) m (by omega) (by omega) (by omega)
      by_cases he : zs[m] = zs[m - 1]
      · have : Lib.keeps zs.toArray m = false := by simp [Lib.keeps, hg, hg1, h0, he]
        rw [this, ht]
        refine ⟨by simpa using ih1, fun x => ?_⟩
        have hin : zs[m] ∈ zs.take m := by
          rw [he, List.mem_take_iff_getElem]
          exact ⟨m - 1, by omega, rfl⟩
        simp only [Bool.false_eq_true, if_false, List.append_nil, List.mem_append, List.mem_singleton, ih2]
        constructor
        · exact .inl
        · rintro (h | rfl)
          · exact h
          · exact hin
      · have : Lib.keeps zs.toArray m = true := by simp [Lib.keeps, hg, hg1, he]
        rw [this]
        refine ⟨?_, fun x => by rw [ht]; simp only [if_true, List.mem_append, List.mem_singleton, ih2]⟩
        simp only [if_true]
        unfold Up
        rw [List.pairwise_append]
        refine ⟨ih1, List.pairwise_singleton _ _, fun x hx y hy => ?_⟩
        obtain rfl : y = zs[m] := by simpa using hy
        have hx2 := (ih2 x).1 hx
        obtain ⟨i, hi, rfl⟩ := List.mem_take_iff_getElem.1 hx2
        have hxm : zs[i] ≤ zs[m - 1] := by
          by_cases h3 : i = m - 1
          · subst h3; omega
          · exact (List.pairwise_iff_getElem.1 hp) i (m - 1) (by omega) (by omega) (by omega)
        omega
def finalP (xss : List (List Rg)) : List Int := (Lib.compact (srt (0 :: xss.flatMap bnds))).filter fun x => !decide (1114111 < x)
theorem comp_mem (d : List Int) (x : Int) : x ∈ Lib.compact (srt d) ↔ x ∈ d := by
  unfold Lib.compact
  rw [(compact_step _ (srt_pw d) _ (Nat.le_refl _)).2, List.take_length, srt_mem]
theorem comp_pos (d : List Int) (h : 0 < d.length) : 0 < (Lib.compact (srt d)).length := by
  cases d with
  | nil => simp at h
  | cons x d => exact List.length_pos_of_mem ((comp_mem (x :: d) x).2 (by simp))
theorem finalP_mem (xss : List (List Rg)) (x : Int) : x ∈ finalP xss ↔ (x = 0 ∨ x ∈ xss.flatMap bnds) ∧ x ≤ 1114111 := by
  unfold finalP
  rw [List.mem_filter, comp_mem, List.mem_cons]
  simp
theorem finalP_up (xss : List (List Rg)) : Up (finalP xss) := ((compact_step _ (srt_pw _) _ (Nat.le_refl _)).1).filter _
theorem up_ext : ∀ {xs ys : List Int}, Up xs → Up ys → (∀ s, s ∈ xs ↔ s ∈ ys) → xs = ys
  | [], [], _, _, _ => rfl
  | [], y :: ys, _, _, h => absurd ((h y).2 (List.mem_cons_self ..)) (by simp)
  | x :: xs, [], _, _, h => absurd ((h x).1 (List.mem_cons_self ..)) (by simp)
  | x :: xs, y :: ys, hx, hy, h => by
    unfold Up at hx hy
    obtain ⟨a1, a2⟩ := List.pairwise_cons.1 hx
    obtain ⟨b1, b2⟩ := List.pairwise_cons.1 hy
    have e : x = y := by
      rcases List.mem_cons.1 ((h x).1 (List.mem_cons_self ..)) with e | e
      · exact e
      · rcases List.mem_cons.1 ((h y).2 (List.mem_cons_self ..)) with e2 | e2
        · exact e2.symm
        · have h1 := b1 x e
          have h2 := a1 y e2
          omega
    subst e
    refine congrArg (x :: ·) (up_ext a2 b2 fun s => ?_)
    constructor
    · intro hs
      rcases List.mem_cons.1 ((h s).1 (List.mem_cons_of_mem _ hs)) with e | e
      · have h1 := a1 s hs
        omega
      · exact e
    · intro hs
      rcases List.mem_cons.1 ((h s).2 (List.mem_cons_of_mem _ hs)) with e | e
      · have h1 := b1 s hs
        omega
      · exact e
/-- the numbers ahead of the place, and behind it -/
theorem at_lt (l : List Int) (n : Int) : ∀ x ∈ l.take (atI l n), x < n := by
  induction l with
  | nil => simp [atI]
  | cons y l ih =>
    intro x hx
    unfold atI at hx ih
    rw [List.takeWhile_cons] at hx
    by_cases h : y < n
    · simp only [h, decide_true, if_true, List.length_cons, List.take_succ_cons, List.mem_cons] at hx
      rcases hx with rfl | hx
      · exact h
      · exact ih x hx
    · simp [h] at hx
theorem at_ge (l : List Int) (hl : Up l) (n : Int) : (∀ x ∈ l.drop (atI l n), n ≤ x) ∧ (l[atI l n]? ≠ some n → ∀ x ∈ l.drop (atI l n), n < x) := by
  induction l with
  | nil => simp [atI]
  | cons y l ih =>
    unfold Up at hl
    obtain ⟨a1, a2⟩ := List.pairwise_cons.1 hl
    obtain ⟨i1, i2⟩ := ih a2
    by_cases h : y < n
    · have e : atI (y :: l) n = atI l n + 1 := by unfold atI; rw [List.takeWhile_cons]; simp [h]
      rw [e]
      simp only [List.drop_succ_cons, List.getElem?_cons_succ]
      exact ⟨i1, i2⟩
    · have e : atI (y :: l) n = 0 := by unfold atI; rw [List.takeWhile_cons]; simp [h]
      rw [e]
      simp only [List.drop_zero, List.getElem?_cons_zero, List.mem_cons]
      refine ⟨?_, fun hne => ?_⟩
      · rintro x (rfl | hx)
        · omega
        · have := a1 x hx; omega
      · have : y ≠ n := fun e => hne (by rw [e])
        rintro x (rfl | hx)
        · omega
        · have := a1 x hx; omega
theorem with_up {l : List Int} (hl : Up l) (n : Int) : Up (withL l n) ∧ ∀ x, x ∈ withL l n ↔ x ∈ l ∨ (x = n ∧ n ≤ 1114111) := by
  unfold withL
  split
  · rename_i h
    refine ⟨hl, fun x => ⟨.inl, ?_⟩⟩
    rintro (hx | ⟨rfl, hx⟩)
    · exact hx
    · rcases h with h | h
      · omega
      · exact List.mem_of_getElem? h
  · rename_i h
    simp only [not_or] at h
    have h1 := at_lt l n
    have h2 := (at_ge l hl n).2 h.2
    have hs : l.take (atI l n) ++ l.drop (atI l n) = l := List.take_append_drop _ _
    refine ⟨?_, fun x => ?_⟩
    · unfold Up
      rw [List.append_assoc, List.pairwise_append]
      refine ⟨hl.sublist (List.take_sublist _ _), ?_, ?_⟩
      · rw [List.singleton_append, List.pairwise_cons]
        exact ⟨h2, hl.sublist (List.drop_sublist _ _)⟩
      · intro a ha b hb
        have := h1 a ha
        simp only [List.singleton_append, List.mem_cons] at hb
        rcases hb with rfl | hb
        · exact this
        · have := h2 b hb; omega
    · have hm : x ∈ l ↔ x ∈ l.take (atI l n) ∨ x ∈ l.drop (atI l n) := by rw [← List.mem_append, hs]
      simp only [List.mem_append, List.mem_singleton, hm]
      constructor
      · rintro ((h3 | h3) | h3)
        · exact .inl (.inl h3)
        · exact .inr ⟨h3, by omega⟩
        · exact .inl (.inr h3)
      · rintro ((h3 | h3) | ⟨h3, _⟩)
        · exact .inl (.inl h3)
        · exact .inr h3
        · exact .inl (.inr h3)
theorem plc_up : ∀ (l : List Rg) {o : List Int}, Up o → Up (plc o l) ∧ ∀ x, x ∈ plc o l ↔ x ∈ o ∨ (x ∈ bnds l ∧ x ≤ 1114111)
  | [], o, h => ⟨h, fun x => by simp [plc, bnds]⟩
  | r :: l, o, h => by
    obtain ⟨h1, m1⟩ := with_up h r.1
    obtain ⟨h2, m2⟩ := with_up h1 (r.2 + 1)
    obtain ⟨h3, m3⟩ := plc_up l h2
    refine ⟨h3, fun x => ?_⟩
    have e : plc o (r :: l) = plc (withL (withL o r.1) (r.2 + 1)) l := rfl
    have eb : bnds (r :: l) = r.1 :: (r.2 + 1) :: bnds l := by simp [bnds]
    rw [e, m3, m2, m1, eb]
    simp only [List.mem_cons]
    constructor
    · rintro (((h | ⟨rfl, h⟩) | ⟨rfl, h⟩) | ⟨h, h'⟩)
      · exact .inl h
      · exact .inr ⟨.inl rfl, h⟩
      · exact .inr ⟨.inr (.inl rfl), h⟩
      · exact .inr ⟨.inr (.inr h), h'⟩
    · rintro (h | ⟨rfl | rfl | h, h'⟩)
      · exact .inl (.inl (.inl h))
      · exact .inl (.inl (.inr ⟨rfl, h'⟩))
      · exact .inl (.inr ⟨rfl, h'⟩)
      · exact .inr ⟨h, h'⟩
theorem plcs_up (xss : List (List Rg)) : Up (plcs xss) ∧ ∀ x, x ∈ plcs xss ↔ x = 0 ∨ (x ∈ xss.flatMap bnds ∧ x ≤ 1114111) := by
  have : ∀ (yss : List (List Rg)) (o : List Int), Up o → Up (yss.foldl plc o) ∧ ∀ x, x ∈ yss.foldl plc o ↔ x ∈ o ∨ (x ∈ yss.flatMap bnds ∧ x ≤ 1114111) := by
    intro yss
    induction yss with
    | nil => intro o h; exact ⟨h, fun x => by simp⟩
    | cons l yss ih =>
      intro o h
      obtain ⟨h1, m1⟩ := plc_up l h
      obtain ⟨h2, m2⟩ := ih _ h1
      refine ⟨h2, fun x => ?_⟩
      rw [List.foldl_cons, m2, m1, List.flatMap_cons, List.mem_append]
      constructor
      · rintro ((h | ⟨h, h'⟩) | ⟨h, h'⟩)
        · exact .inl h
        · exact .inr ⟨.inl h, h'⟩
        · exact .inr ⟨.inr h, h'⟩
      · rintro (h | ⟨h | h, h'⟩)
        · exact .inl (.inl h)
        · exact .inl (.inr ⟨h, h'⟩)
        · exact .inr ⟨h, h'⟩
  have := this xss [0] (List.pairwise_singleton _ _)
  refine ⟨this.1, fun x => ?_⟩
  rw [show plcs xss = xss.foldl plc [0] from rfl, this.2, List.mem_singleton]
theorem chk_pw : ∀ (l : List Rg) (last : Int), chk last l = true → (∀ r ∈ l, last + 2 ≤ r.1) ∧ l.Pairwise fun a b => a.2 + 2 ≤ b.1
  | [], _, _ => by simp
  | x :: l, last, h => by
    simp only [chk, Bool.and_eq_true, decide_eq_true_eq] at h
    obtain ⟨⟨h1, h2⟩, h3⟩ := h
    obtain ⟨i1, i2⟩ := chk_pw l x.2 h3
    have hx := (oneB_iff x).1 h1
    refine ⟨?_, List.pairwise_cons.2 ⟨i1, i2⟩⟩
    intro r hr
    rcases List.mem_cons.1 hr with rfl | hr
    · exact h2
    · have := i1 r hr; omega
theorem turns_at {l : List Rg} (h : chk (-2) l = true) {p : Int} (hp : p ∈ bnds l) : (hasB l p != hasB l (p - 1)) = true := by
  have hone := chk_one l _ h
  have hpw := (chk_pw l _ h).2
  have hap : ∀ a ∈ l, ∀ b ∈ l, a = b ∨ a.2 + 2 ≤ b.1 ∨ b.2 + 2 ≤ a.1 := by
    intro a ha b hb
    obtain ⟨i, hi, rfl⟩ := List.getElem_of_mem ha
    obtain ⟨j, hj, rfl⟩ := List.getElem_of_mem hb
    rcases Nat.lt_trichotomy i j with h | h | h
    · exact .inr (.inl ((List.pairwise_iff_getElem.1 hpw) i j hi hj h))
    · subst h; exact .inl rfl
    · exact .inr (.inr ((List.pairwise_iff_getElem.1 hpw) j i hj hi h))
  unfold bnds at hp
  obtain ⟨r, hr, hpr⟩ := List.mem_flatMap.1 hp
  have hor := (oneB_iff r).1 (hone r hr)
  have yes : ∀ n, r.1 ≤ n → n ≤ r.2 → hasB l n = true := fun n h1 h2 => List.any_eq_true.2 ⟨r, hr, by simp [h1, h2]⟩
  have no : ∀ n, (∀ s ∈ l, ¬ (s.1 ≤ n ∧ n ≤ s.2)) → hasB l n = false := fun n hn => List.any_eq_false.2 fun s hs => by
    have := hn s hs
    simp only [Bool.and_eq_true, decide_eq_true_eq]
    exact this
  simp only [List.mem_cons, List.not_mem_nil, or_false] at hpr
  rcases hpr with rfl | rfl
  · rw [yes r.1 (by omega) (by omega), no (r.1 - 1) (fun s hs => by
      have := (oneB_iff s).1 (hone s hs)
      rcases hap s hs r hr with rfl | h | h <;> omega)]
    rfl
  · rw [show r.2 + 1 - 1 = r.2 by omega, yes r.2 (by omega) (by omega), no (r.2 + 1) (fun s hs => by
      have := (oneB_iff s).1 (hone s hs)
      rcases hap s hs r hr with rfl | h | h <;> omega)]
    rfl
theorem turnsL_plcs (xss : List (List Rg)) (h : allM xss = true) : turnsL xss = plcs xss := by
  obtain ⟨h1, h2⟩ := plcs_up xss
  have hbd := plcs_bd xss (allM_one h)
  have h0 : (0 : Int) ∈ plcs xss := (h2 0).2 (.inl rfl)
  unfold turnsL
  cases hp : plcs xss with
  | nil => rw [hp] at h0; simp at h0
  | cons y ys =>
    rw [hp] at h0 h1 h2 hbd
    unfold Up at h1
    obtain ⟨a1, a2⟩ := List.pairwise_cons.1 h1
    have hy : y = 0 := by
      rcases List.mem_cons.1 h0 with e | e
      · exact e.symm
      · have := a1 0 e
        have := hbd y (by simp)
        omega
    subst hy
    rw [List.drop_succ_cons, List.drop_zero, List.filter_eq_self.2]
    intro p hpm
    rcases (h2 p).1 (List.mem_cons_of_mem _ hpm) with e | ⟨e, _⟩
    · have := a1 p hpm; omega
    · obtain ⟨l, hl, hpl⟩ := List.mem_flatMap.1 e
      have hm := List.all_eq_true.1 h l hl
      simp only [mayB, Bool.and_eq_true] at hm
      exact List.any_eq_true.2 ⟨l, hl, turns_at hm.2 hpl⟩
theorem final_turns (xss : List (List Rg)) (h : allM xss = true) : finalP xss = turnsL xss := by
  rw [turnsL_plcs xss h]
  refine up_ext (finalP_up xss) (plcs_up xss).1 fun s => ?_
  rw [finalP_mem, (plcs_up xss).2]
  constructor
  · rintro ⟨h | h, h'⟩
    · exact .inl h
    · exact .inr ⟨h, h'⟩
  · rintro (h | ⟨h, h'⟩)
    · exact ⟨.inl h, by omega⟩
    · exact ⟨.inr h, h'⟩
end Go.Proofs.Ytlndfkanbibhhaa
