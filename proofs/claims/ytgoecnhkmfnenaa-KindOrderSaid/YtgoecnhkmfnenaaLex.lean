/- lex.Name: it tells some truth value, and touches nothing. Conditions: lengths within the model's. -/
import Derived.Test.YtgoecnhkmfnenaaFits
import Derived.Test.YtgoecnhkmfnenaaShelf
namespace Go.Proofs.Ytgoecnhkmfnenaa
open Go.RowKit
theorem front_any (s d : ByteArray) (w : World) (hs : s.size ≤ maxLen) :
    Calls Try.prog 39 #[.string s, .string d] w fun e w' => (∃ t, e = .returned (.string t)) ∧ w' = w := by
  unfold maxLen at hs
  go_enter Try.func39, Try.ntmps39
  go_wp2
  go_loopw [8] (fun i wr => ∃ k : Nat, k ≤ s.size ∧ i = .int .i64 k ∧ wr = w) (fun i _ => s.size - (intOf i).toNat)
  case atStart => exact ⟨0, Nat.zero_le _, rfl, rfl⟩
  case round =>
    obtain ⟨k, hk, rfl, rfl⟩ := hrel
    by_cases hlt : k < s.size
    · have hc := Try.strings_IndexByte d (s[k].toNat : Nat) wr
      obtain ⟨r, hr⟩ : ∃ r, Lib.indexByte d.data.toList ((s[k].toNat : Nat) : Int).toNat.toUInt8 = r := ⟨_, rfl⟩
      rw [hr] at hc
      clear hr
      by_cases h0 : r < 0
      · have h1 : ¬ (s.size : Int) < k := by omega
        go_wp2_with fail
        refine hc.mono ?_
        rintro e w1 ⟨rfl, rfl⟩
        go_wp2
        go_ret
        exact ⟨⟨_, rfl⟩, rfl⟩
      · have h1 : ¬ (s.size : Int) < k := by omega
        go_wp2_with fail
        refine hc.mono ?_
        rintro e w1 ⟨rfl, rfl⟩
        go_wp2
        go_roundw
        case rel => exact ⟨k + 1, by omega, by go_num, by first | rfl | trivial⟩
        case measure => simp [intOf]; omega
    · go_wp2
      go_ret
      exact ⟨⟨_, rfl⟩, rfl⟩
theorem name_any (s : ByteArray) (w : World) (hs : s.size ≤ maxLen) :
    Calls Try.prog 27 #[.string s] w fun e w' => (∃ b, e = .returned (.bool b)) ∧ w' = w := by
  have hf := fun d => front_any s d w hs
  by_cases h0 : s.size = 0
  · obtain rfl : s = ⟨#[]⟩ := by
      rcases s with ⟨⟨l⟩⟩
      have : l.length = 0 := h0
      rw [List.length_eq_zero_iff] at this
      rw [this]
    clear hf
    go_enter Try.func27, Try.ntmps27
    go_wp2
    go_ret
    exact ⟨⟨_, rfl⟩, rfl⟩
  · have hc := fun d => Try.strings_IndexByte d (s[0].toNat : Nat) w
    have h1 : 0 < s.size := by omega
    by_cases hl : s.toList = []
    · go_enter Try.func27, Try.ntmps27
      go_wp2
      go_ret
      exact ⟨⟨_, rfl⟩, rfl⟩
    have hi : s.toList.isEmpty = false := by
      cases h : s.toList with
      | nil => exact absurd h hl
      | cons a r => rfl
    go_enter Try.func27, Try.ntmps27
    go_wp2_with fail
    · refine (hc _).mono ?_
      rintro e w1 ⟨rfl, rfl⟩
      generalize Lib.indexByte _ _ = r
      by_cases h0 : r < 0
      · go_wp2_with fail
        · refine (hf _).mono ?_
          rintro e w1 ⟨⟨t, rfl⟩, rfl⟩
          go_wp2
          go_ret
          exact ⟨⟨_, rfl⟩, rfl⟩
      · go_wp2
        go_ret
        exact ⟨.inl rfl, rfl⟩
end Go.Proofs.Ytgoecnhkmfnenaa
