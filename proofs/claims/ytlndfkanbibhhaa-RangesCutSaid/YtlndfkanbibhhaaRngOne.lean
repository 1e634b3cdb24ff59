/- ranges.one and provostref06.One, Has: what they answer. Conditions: lengths within the model's. -/
import Derived.Test.YtlndfkanbibhhaaRng
namespace Go.Proofs.Ytlndfkanbibhhaa
open Go.RowKit
set_option maxHeartbeats 1000000 in
theorem one_any (x : Rg) (w : World) : Calls Try.prog 18 #[.agg #[.int .i64 x.1, .int .i64 x.2]] w fun e w' => e = .returned (.bool (oneB x)) ∧ Below w.heap.size w w' := by
  obtain ⟨a, b⟩ := x
  go_enter Try.func18, Try.ntmps18
  by_cases h1 : 0 ≤ a <;> by_cases h2 : a ≤ b
  all_goals go_wp2
  all_goals go_ret
  all_goals exact ⟨ret_bool (by first | (simp [oneB, *]; done) | (simp [oneB, *]; omega)), (Below.refl _ _).alloc (Nat.le_refl _) _⟩
set_option maxHeartbeats 1000000 in
theorem one_ref (x : Rg) (w : World) : Calls Try.prog 22 #[.agg #[.int .i64 x.1, .int .i64 x.2]] w fun e w' => e = .returned (.bool (oneB x)) ∧ Below w.heap.size w w' := by
  obtain ⟨a, b⟩ := x
  go_enter Try.func22, Try.ntmps22
  by_cases h1 : 0 ≤ a <;> by_cases h2 : a ≤ b
  all_goals go_wp2
  all_goals go_ret
  all_goals exact ⟨ret_bool (by first | (simp [oneB, *]; done) | (simp [oneB, *]; omega)), (Below.refl _ _).alloc (Nat.le_refl _) _⟩
theorem has_ref (A : Option Addr) (c : Nat) (xs : List Rg) (n : Int) (w : World) {B : Nat} (hx : Rd w B A (fl xs)) (hn : xs.length ≤ maxLen) :
    Calls Try.prog 24 #[.slice A xs.length c, .int .i64 n] w fun e w' => e = .returned (.bool (hasB xs n)) ∧ w' = w := by
  unfold maxLen at hn
  obtain ⟨V, hV⟩ : ∃ V, hasB xs n = V := ⟨_, rfl⟩
  rw [hV]
  have HV := Lib.hid hV
  clear hV
  go_enter Try.func24, Try.ntmps24
  go_wp2
  go_loopw [5] (fun i wr => ∃ k : Nat, k ≤ xs.length ∧ i = .int .i64 k ∧ hasB (xs.drop k) n = V ∧ wr = w) (fun i _ => xs.length - (intOf i).toNat)
  case atStart => exact ⟨0, Nat.zero_le _, rfl, by rw [List.drop_zero, HV.out], rfl⟩
  case round =>
    obtain ⟨k, hk, rfl, hd, rfl⟩ := hrel
    by_cases hlt : k < xs.length
    · obtain ⟨b, off, rfl, _, hc⟩ := hx.rng hlt
      obtain ⟨c1, c2⟩ := hc k hlt
      rw [has_drop hlt] at hd
      clear hc
      generalize xs[k] = r at *
      obtain ⟨a1, a2⟩ := r
      by_cases h1 : a1 ≤ n
      · by_cases h2 : n ≤ a2
        · have hv : V = true := by rw [← hd]; simp [h1, h2]
          subst hv
          clear hd
          go_wp2
          all_goals go_ret
          all_goals exact ⟨rfl, rfl⟩
        · simp only [h1, h2, decide_true, decide_false, Bool.and_false, Bool.false_or] at hd
          go_wp2
          exact ⟨⟨k + 1, hlt, by go_num, hd, trivial⟩, by simp [intOf]; omega⟩
      · simp only [h1, decide_false, Bool.false_and, Bool.false_or] at hd
        go_wp2
        exact ⟨⟨k + 1, hlt, by go_num, hd, trivial⟩, by simp [intOf]; omega⟩
    · obtain rfl : k = xs.length := by omega
      rw [List.drop_length] at hd
      have hv : V = false := by rw [← hd]; rfl
      subst hv
      clear hd
      go_wp2
      go_ret
      exact ⟨rfl, rfl⟩
end Go.Proofs.Ytlndfkanbibhhaa
