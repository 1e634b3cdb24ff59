/- The reference's digit: what a letter is worth. Conditions: none but that the text is one. -/
import Derived.Test.YtbigpcpifbjkfaaUuidRefText
namespace Go.Proofs.Ytbigpcpifbjkfaa
open Go.RowKit Go.ChangeShapes Go.WideShapes Go.ChangeAt
def dig (c : Int) : Int := if 48 ≤ c ∧ c ≤ 57 then c - 48 else if 97 ≤ c ∧ c ≤ 102 then c - 87 else if 65 ≤ c ∧ c ≤ 70 then c - 55 else -1
theorem dig_lt (c : Int) : -1 ≤ dig c ∧ dig c < 16 := by
  unfold dig
  split
  · omega
  · split
    · omega
    · split <;> omega
theorem dig_hex (k : Nat) (hk : k < 16) (c : Int) : hexd k = c ∨ (9 < k ∧ hexd k - 32 = c) ↔ dig c = k := by
  unfold dig hexd
  split <;> split <;> first | omega | (split <;> first | omega | (split <;> omega))
theorem hexd_rng (k : Nat) (hk : k < 16) : 48 ≤ hexd k ∧ hexd k ≤ 102 := by unfold hexd; split <;> omega
theorem digit_any (c : Int) (hc : 0 ≤ c ∧ c < 256) (w : World) :
    Calls Try.prog 20 #[.int .u8 c] w fun e w' => e = .returned (.int .i64 (dig c)) ∧ w' = w := by
  go_enter Try.func20, Try.ntmps20
  go_wp2
  go_loopw [3] (fun i wr => ∃ k : Nat, k ≤ 16 ∧ i = .int .i64 k ∧ (∀ j : Nat, j < k → dig c ≠ j) ∧ wr = w) (fun i _ => 16 - (intOf i).toNat)
  case atStart => exact ⟨0, by omega, rfl, by simp, rfl⟩
  case round =>
    obtain ⟨k, hk, rfl, hno, rfl⟩ := hrel
    by_cases hlt : k < 16
    · have hh := hex_at k hlt
      have hd := dig_hex k hlt c
      have hr := hexd_rng k hlt
      obtain ⟨y, hy⟩ : ∃ y, hexd k = y := ⟨_, rfl⟩
      rw [hy] at hh hd hr
      clear hy
      by_cases h1 : y = c
      · have hd' := hd.1 (.inl h1)
        clear hd
        subst h1
        go_wp2
        go_ret
        exact ⟨ret_int (by omega), rfl⟩
      · by_cases h2 : (9 : Int) < k
        · by_cases h3 : y - 32 = c
          · have hd' := hd.1 (.inr ⟨by omega, h3⟩)
            clear hd
            subst h3
            go_wp2
            go_ret
            exact ⟨ret_int (by omega), rfl⟩
          · have hne : dig c ≠ k := by intro h; rcases hd.2 h with q | q; exact h1 q; exact h3 q.2
            clear hd
            have h1' : (y == c) = false := by simpa using h1
            have h3' : (y - 32 == c) = false := by simpa using h3
            go_wp2
            refine ⟨⟨k + 1, hlt, by go_num, ?_, trivial⟩, by simp [intOf]; omega⟩
            intro j hj
            rcases Nat.lt_succ_iff_lt_or_eq.1 hj with q | rfl
            · exact hno j q
            · exact hne
        · have hne : dig c ≠ k := by intro h; rcases hd.2 h with q | q; exact h1 q; omega
          clear hd
          go_wp2
          refine ⟨⟨k + 1, hlt, by go_num, ?_, trivial⟩, by simp [intOf]; omega⟩
          intro j hj
          rcases Nat.lt_succ_iff_lt_or_eq.1 hj with q | rfl
          · exact hno j q
          · exact hne
    · obtain rfl : k = 16 := by omega
      go_wp2
      go_ret
      refine ⟨ret_int ?_, rfl⟩
      have h1 := dig_lt c
      have h2 : ¬ 0 ≤ dig c := fun h => hno (dig c).toNat (by omega) (by omega)
      omega
end Go.Proofs.Ytbigpcpifbjkfaa
