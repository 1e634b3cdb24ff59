/- KindOrder's plain laws: fitting is an order of types. Conditions: none. -/
import Derived.Test.YtgoecnhkmfnenaaFits
namespace Go.Proofs.Ytgoecnhkmfnenaa
/-- which type fits which, by rules -/
inductive Fit (na nb : ByteArray) : List UInt8 → List UInt8 → Prop
  | nil : na = nb → Fit na nb [] []
  | both {fa tb} : Fit na nb fa tb → Fit na nb (1 :: fa) (1 :: tb)
  | more {fa tb} : tb.head? ≠ some 1 → Fit na nb fa tb → Fit na nb (1 :: fa) tb
  | item {fa tb} : Fit na nb fa tb → Fit na nb (2 :: fa) (2 :: tb)
theorem fit_of {na nb : ByteArray} : ∀ {fa tb : List UInt8}, fits na nb fa tb = true → Fit na nb fa tb
  | [], tb, h => by
    rcases tb with _ | ⟨b, tb⟩
    · exact .nil (by simpa [fits] using h)
    · simp [fits] at h
  | a :: fa, tb, h => by
    rw [fits] at h
    split at h
    · rename_i h1
      rcases tb with _ | ⟨b, tb⟩
      · simp at h1
      · obtain rfl : b = 1 := by simpa using h1
        split at h
        · rename_i h2
          subst h2
          exact .both (fit_of h)
        · cases h
    · rename_i h1
      split at h
      · rename_i h2
        subst h2
        exact .more h1 (fit_of h)
      · split at h
        · rename_i h2
          subst h2
          split at h
          · rename_i h3
            rcases tb with _ | ⟨b, tb⟩
            · simp at h3
            · obtain rfl : b = 2 := by simpa using h3
              exact .item (fit_of h)
          · cases h
        · cases h
theorem of_fit {na nb : ByteArray} {fa tb : List UInt8} (h : Fit na nb fa tb) : fits na nb fa tb = true := by
  induction h with
  | nil h => simpa [fits] using h
  | both _ ih => simpa [fits] using ih
  | more h _ ih => rw [fits, if_neg h, if_pos rfl]; exact ih
  | item _ ih => simpa [fits] using ih
theorem fits_iff {na nb : ByteArray} {fa tb : List UInt8} : fits na nb fa tb = true ↔ Fit na nb fa tb := ⟨fit_of, of_fit⟩
theorem fit_len {na nb : ByteArray} {fa tb : List UInt8} (h : Fit na nb fa tb) : tb.length ≤ fa.length := by
  induction h with
  | nil _ => exact Nat.le_refl _
  | both _ ih => simpa using ih
  | more _ _ ih => exact Nat.le_succ_of_le ih
  | item _ ih => simpa using ih
theorem fit_name {na nb : ByteArray} {fa tb : List UInt8} (h : Fit na nb fa tb) : na = nb := by
  induction h with
  | nil h => exact h
  | both _ ih => exact ih
  | more _ _ ih => exact ih
  | item _ ih => exact ih
theorem fit_eq {na nb : ByteArray} {fa tb : List UInt8} (h : Fit na nb fa tb) (hl : fa.length ≤ tb.length) : fa = tb := by
  induction h with
  | nil _ => rfl
  | both _ ih => rw [ih (by simpa using hl)]
  | more _ h ih => have := fit_len h; simp at hl; omega
  | item _ ih => rw [ih (by simpa using hl)]
theorem fit_anti {na nb : ByteArray} {fa tb : List UInt8} (h : Fit na nb fa tb) (h2 : Fit nb na tb fa) : na = nb ∧ fa = tb :=
  ⟨fit_name h, fit_eq h (fit_len h2)⟩
theorem fit_trans {na nb nc : ByteArray} {fa tb : List UInt8} (h : Fit na nb fa tb) : ∀ {tc}, Fit nb nc tb tc → Fit na nc fa tc := by
  induction h with
  | nil h => intro tc h2; subst h; exact h2
  | both _ ih =>
    intro tc h2
    cases h2 with
    | both h3 => exact .both (ih h3)
    | more h3 h4 => exact .more h3 (ih h4)
  | more h _ ih =>
    intro tc h2
    refine .more ?_ (ih h2)
    cases h2 with
    | nil _ => simp
    | both _ => simp at h
    | more _ _ => simp at h
    | item _ => simp
  | item _ ih =>
    intro tc h2
    cases h2 with
    | item h3 => exact .item (ih h3)
theorem fit_refl (na : ByteArray) : ∀ fa : List UInt8, (∀ x ∈ fa, x = 1 ∨ x = 2) → Fit na na fa fa
  | [], _ => .nil rfl
  | a :: r, h => by
    have ih := fit_refl na r fun x hx => h x (List.mem_cons_of_mem _ hx)
    rcases h a (List.mem_cons_self ..) with rfl | rfl
    · exact .both ih
    · exact .item ih
end Go.Proofs.Ytgoecnhkmfnenaa
