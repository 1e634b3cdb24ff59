/- Plain laws of lists that rise: where a string is, or would be; put, and dropped again. No program in sight. Conditions: those of each theorem. -/
import Derived.Test.YtgicbpoicejmbaaDrop
namespace Go.Proofs.Ytgicbpoicejmbaa

def Pw (xs : List ByteArray) : Prop := xs.Pairwise (fun a b => slt a b = true)
theorem rises_pw (xs : List ByteArray) : rises xs = true ↔ Pw xs := by
  unfold Pw
  rw [List.pairwise_iff_getElem]
  constructor
  · intro h i j hi hj hij
    exact rises_lt h j i hj hij
  · intro h
    rw [rises_iff]
    intro i hi
    exact h i (i + 1) (by omega) hi (by omega)
theorem take_before {xs : List ByteArray} {s : ByteArray} : ∀ x ∈ xs.take (before xs s), slt x s = true := by
  intro x hx
  have e : xs.take (before xs s) = xs.takeWhile (fun x => slt x s) := by
    have := List.takeWhile_prefix (fun x => slt x s) (l := xs)
    exact (List.prefix_iff_eq_take.1 this).symm
  rw [e] at hx
  have : ∀ (l : List ByteArray), x ∈ l.takeWhile (fun x => slt x s) → slt x s = true := by
    intro l
    induction l with
    | nil => intro h; cases h
    | cons a l ih =>
      intro h
      rw [List.takeWhile_cons] at h
      split at h
      · rcases List.mem_cons.1 h with rfl | h
        · assumption
        · exact ih h
      · cases h
  exact this xs hx
theorem at_before {xs : List ByteArray} {s : ByteArray} (h : before xs s < xs.length) : slt xs[before xs s] s = false := by
  unfold before at h ⊢
  induction xs with
  | nil => simp at h
  | cons a l ih =>
    cases ha : slt a s
    · simp only [List.takeWhile_cons, ha] at h ⊢
      simpa using ha
    · simp only [List.takeWhile_cons, ha, if_true, List.length_cons] at h ⊢
      simpa using ih (by simpa using h)
theorem drop_before {xs : List ByteArray} {s : ByteArray} (hp : Pw xs) : ∀ x ∈ xs.drop (before xs s), slt x s = false := by
  intro x hx
  by_cases hl : before xs s < xs.length
  · have h0 := at_before hl
    rw [List.drop_eq_getElem_cons hl] at hx
    rcases List.mem_cons.1 hx with rfl | hx
    · exact h0
    · rw [Bool.eq_false_iff]
      intro e
      obtain ⟨i, hi, rfl⟩ := List.mem_drop_iff_getElem.1 hx
      have := (List.pairwise_iff_getElem.1 hp) (before xs s) (before xs s + 1 + i) hl (by omega) (by omega)
      rw [slt_trans _ _ _ this e] at h0
      cases h0
  · rw [List.drop_of_length_le (by omega)] at hx; cases hx
theorem has_mem {xs : List ByteArray} {s : ByteArray} (hp : Pw xs) : hasB xs s = true ↔ s ∈ xs := by
  constructor
  · intro h
    have hl := hasB_lt h
    rw [hasB_at hl] at h
    have := of_decide_eq_true h
    rw [← this]
    exact List.getElem_mem hl
  · intro h
    have hl : before xs s < xs.length := by
      rcases Nat.lt_or_ge (before xs s) xs.length with h1 | h1
      · exact h1
      · have h2 := take_before (xs := xs) (s := s) s (by rw [List.take_of_length_le h1]; exact h)
        rw [less_irrefl] at h2; cases h2
    rw [hasB_at hl, decide_eq_true_iff]
    have h1 := at_before hl
    have h2 : s ∈ xs.drop (before xs s) := by
      rcases List.mem_append.1 (by rw [List.take_append_drop]; exact h : s ∈ xs.take (before xs s) ++ xs.drop (before xs s)) with h3 | h3
      · have h4 := take_before s h3
        rw [less_irrefl] at h4; cases h4
      · exact h3
    rw [List.drop_eq_getElem_cons hl] at h2
    rcases List.mem_cons.1 h2 with h3 | h3
    · exact h3.symm
    · obtain ⟨i, hi, h4⟩ := List.mem_drop_iff_getElem.1 h3
      have := (List.pairwise_iff_getElem.1 hp) (before xs s) (before xs s + 1 + i) hl (by omega) (by omega)
      rw [h4, h1] at this
      cases this

/-- a list with a string put in its place -/
def ins (xs : List ByteArray) (s : ByteArray) : List ByteArray := xs.take (before xs s) ++ s :: xs.drop (before xs s)
theorem gt_of {x s : ByteArray} (h : slt x s = false) (hn : x ≠ s) : slt s x = true := by
  cases e : slt s x
  · exact absurd (slt_total x s h e) hn
  · rfl
theorem ins_pw {xs : List ByteArray} {s : ByteArray} (hp : Pw xs) (hn : s ∉ xs) : Pw (ins xs s) := by
  unfold ins Pw
  have h1 := take_before (xs := xs) (s := s)
  have h2 := drop_before (xs := xs) (s := s) hp
  have e : xs = xs.take (before xs s) ++ xs.drop (before xs s) := (List.take_append_drop _ _).symm
  generalize xs.take (before xs s) = A at *
  generalize xs.drop (before xs s) = B at *
  subst e
  unfold Pw at hp
  rw [List.pairwise_append] at hp ⊢
  obtain ⟨hA, hB, hAB⟩ := hp
  refine ⟨hA, List.pairwise_cons.2 ⟨fun b hb => gt_of (h2 b hb) (fun e => hn (by rw [← e]; simp [hb])), hB⟩, ?_⟩
  intro a ha b hb
  rcases List.mem_cons.1 hb with rfl | hb
  · exact h1 a ha
  · exact hAB a ha b hb
theorem ins_mem {xs : List ByteArray} {s o : ByteArray} : o ∈ ins xs s ↔ o = s ∨ o ∈ xs := by
  unfold ins
  have e : xs = xs.take (before xs s) ++ xs.drop (before xs s) := (List.take_append_drop _ _).symm
  constructor
  · intro h
    rcases List.mem_append.1 h with h | h
    · exact .inr (List.mem_of_mem_take h)
    · rcases List.mem_cons.1 h with h | h
      · exact .inl h
      · exact .inr (List.mem_of_mem_drop h)
  · rintro (rfl | h)
    · simp
    · rw [e] at h
      rcases List.mem_append.1 h with h | h
      · exact List.mem_append_left _ h
      · exact List.mem_append_right _ (List.mem_cons_of_mem _ h)
theorem ins_len (xs : List ByteArray) (s : ByteArray) : (ins xs s).length = xs.length + 1 := by
  unfold ins
  have := before_le xs s
  simp; omega
theorem ins_at (xs : List ByteArray) (s : ByteArray) : (ins xs s)[before xs s]? = some s := by
  have hb := before_le xs s
  have hl : (xs.take (before xs s)).length = before xs s := by rw [List.length_take]; omega
  unfold ins
  rw [List.getElem?_append_right (by omega), hl]
  simp
theorem ins_before (xs : List ByteArray) (s : ByteArray) : before (ins xs s) s = before xs s := by
  have hb := before_le xs s
  have hl : (xs.take (before xs s)).length = before xs s := by rw [List.length_take]; omega
  refine before_eq (by rw [ins_len]; omega) (fun j hj => ?_) (fun h => ?_)
  · unfold ins
    rw [List.getElem_append_left (by omega)]
    exact take_before _ (List.getElem_mem _)
  · obtain ⟨_, e⟩ := List.getElem?_eq_some_iff.1 (ins_at xs s)
    rw [e]
    exact less_irrefl s
theorem ins_drop (xs : List ByteArray) (s : ByteArray) : (ins xs s).take (before xs s) ++ (ins xs s).drop (before xs s + 1) = xs := by
  have hb := before_le xs s
  have hl : (xs.take (before xs s)).length = before xs s := by rw [List.length_take]; omega
  unfold ins
  rw [List.take_left' hl]
  have : (xs.take (before xs s) ++ s :: xs.drop (before xs s)).drop (before xs s + 1) = xs.drop (before xs s) := by
    rw [List.drop_append, List.drop_of_length_le (by omega), hl, show before xs s + 1 - before xs s = 1 by omega]
    rfl
  rw [this, List.take_append_drop]
theorem okB_pw {xs : List ByteArray} : okB xs = true ↔ xs.length ≤ 4096 ∧ Pw xs := by
  unfold okB
  rw [Bool.and_eq_true, decide_eq_true_iff, rises_pw]
end Go.Proofs.Ytgicbpoicejmbaa
