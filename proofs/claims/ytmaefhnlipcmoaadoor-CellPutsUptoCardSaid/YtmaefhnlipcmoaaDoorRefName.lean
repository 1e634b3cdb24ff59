/- provostref03.Name, text, among. Conditions: lengths within the model's; at most 2,000,000 bytes (text). -/
import Derived.Test.YtmaefhnlipcmoaaDoorCel
import Derived.Test.YtmaefhnlipcmoaaDoorRefNext
namespace Go.Proofs.YtmaefhnlipcmoaaDoor
open Go.RowKit
theorem name_drop {s : ByteArray} {k : Nat} (h : k < s.size) : nameFrom (s.data.toList.drop k) k = ((isLetter s[k] || isDigit s[k] && decide (0 < k)) && nameFrom (s.data.toList.drop (k + 1)) (k + 1)) := by
  have hl : k < s.data.toList.length := by rw [size_data]; exact h
  have e : s.data.toList[k] = s[k] := by
    simp [ByteArray.getElem_eq_getElem_data]
  rw [List.drop_eq_getElem_cons hl, e]
  rfl
set_option maxHeartbeats 4000000 in
theorem name_ref (s : ByteArray) (w : World) (hs : s.size ≤ maxLen) : Calls Tryd.prog 67 #[.string s] w fun e w' => e = .returned (.bool (nameOk s)) ∧ w' = w := by
  unfold maxLen at hs
  by_cases h0 : s.size = 0
  · have hV : nameOk s = false := by simp [nameOk, h0]
    rw [hV]
    go_enter Tryd.func67, Tryd.ntmps67
    go_wp2
    go_loopw [3] (fun i wr => i = .int .i64 0 ∧ wr = w) (fun i _ => 0)
    case atStart => exact ⟨rfl, rfl⟩
    case round =>
      obtain ⟨rfl, rfl⟩ := hrel
      go_wp2
      go_ret
      exact ⟨rfl, rfl⟩
  · obtain ⟨V, hV⟩ : ∃ V, nameFrom s.data.toList 0 = V := ⟨_, rfl⟩
    have hE : nameOk s = V := by rw [nameOk, hV]; simp; omega
    rw [hE]
    have HV := Lib.hid hV
    have hpos : (0 : Int) < s.size := by omega
    clear hV hE
    go_enter Tryd.func67, Tryd.ntmps67
    go_wp2
    go_loopw [3] (fun i wr => ∃ k : Nat, k ≤ s.size ∧ i = .int .i64 k ∧ nameFrom (s.data.toList.drop k) k = V ∧ wr = w) (fun i _ => s.size - (intOf i).toNat)
    case atStart => exact ⟨0, Nat.zero_le _, rfl, by rw [List.drop_zero, HV.out], rfl⟩
    case round =>
      obtain ⟨k, hk, rfl, hd, rfl⟩ := hrel
      by_cases hlt : k < s.size
      · rw [name_drop hlt] at hd
        unfold isLetter isDigit at hd
        obtain ⟨x, hx⟩ : ∃ x, s[k].toNat = x := ⟨_, rfl⟩
        rw [hx] at hd
        have hx2 : ((s[k].toNat : Nat) : Int) = (x : Int) := by rw [hx]
        have HX := Lib.hid hx
        clear hx
        have harm : (x < 48) ∨ (48 ≤ x ∧ x ≤ 57) ∨ (58 ≤ x ∧ x ≤ 64) ∨ (65 ≤ x ∧ x ≤ 90) ∨ (91 ≤ x ∧ x ≤ 94) ∨ (x = 95) ∨ (x = 96) ∨ (97 ≤ x ∧ x ≤ 122) ∨ (123 ≤ x) := by omega
        rcases harm with ha | ha | ha | ha | ha | ha | ha | ha | ha
        · have f0 : decide (97 ≤ x) = false := by simp; omega
          have f1 : decide (x ≤ 122) = true := by simp; omega
          have f2 : decide (65 ≤ x) = false := by simp; omega
          have f3 : decide (x ≤ 90) = true := by simp; omega
          have f4 : decide (48 ≤ x) = false := by simp; omega
          have f5 : decide (x ≤ 57) = true := by simp; omega
          have f6 : decide (x = 95) = false := by simp; omega
          have g0 : ¬ (97 ≤ (x : Int)) := by omega
          have g1 : ((x : Int) ≤ 122) := by omega
          have g2 : ¬ (65 ≤ (x : Int)) := by omega
          have g3 : ((x : Int) ≤ 90) := by omega
          have g4 : ¬ (48 ≤ (x : Int)) := by omega
          have g5 : ((x : Int) ≤ 57) := by omega
          have g6 : ((x : Int) == 95) = false := beq_eq_false_iff_ne.2 (by omega)
          simp only [f0, f1, f2, f3, f4, f5, f6, Bool.and_true, Bool.false_and, Bool.or_false] at hd
          clear f0 f1 f2 f3 f4 f5 f6 ha
          subst hd
          go_wp2
          go_ret
          exact ⟨rfl, rfl⟩
        · have f0 : decide (97 ≤ x) = false := by simp; omega
          have f1 : decide (x ≤ 122) = true := by simp; omega
          have f2 : decide (65 ≤ x) = false := by simp; omega
          have f3 : decide (x ≤ 90) = true := by simp; omega
          have f4 : decide (48 ≤ x) = true := by simp; omega
          have f5 : decide (x ≤ 57) = true := by simp; omega
          have f6 : decide (x = 95) = false := by simp; omega
          have g0 : ¬ (97 ≤ (x : Int)) := by omega
          have g1 : ((x : Int) ≤ 122) := by omega
          have g2 : ¬ (65 ≤ (x : Int)) := by omega
          have g3 : ((x : Int) ≤ 90) := by omega
          have g4 : (48 ≤ (x : Int)) := by omega
          have g5 : ((x : Int) ≤ 57) := by omega
          have g6 : ((x : Int) == 95) = false := beq_eq_false_iff_ne.2 (by omega)
          simp only [f0, f1, f2, f3, f4, f5, f6, Bool.and_true, Bool.true_and, Bool.or_false, Bool.false_or] at hd
          clear f0 f1 f2 f3 f4 f5 f6 ha
          by_cases hk0 : k = 0
          · subst hk0
            have hv : V = false := by rw [← hd]; rfl
            subst hv
            clear hd
            go_wp2
            go_ret
            exact ⟨rfl, rfl⟩
          · have hkp : decide (0 < k) = true := by simp; omega
            rw [hkp, Bool.true_and] at hd
            have hki : ((k : Int) == 0) = false := beq_eq_false_iff_ne.2 (by omega)
            go_wp2
            exact ⟨⟨k + 1, hlt, by go_num, hd, trivial⟩, by simp [intOf]; omega⟩
        · have f0 : decide (97 ≤ x) = false := by simp; omega
          have f1 : decide (x ≤ 122) = true := by simp; omega
          have f2 : decide (65 ≤ x) = false := by simp; omega
          have f3 : decide (x ≤ 90) = true := by simp; omega
          have f4 : decide (48 ≤ x) = true := by simp; omega
          have f5 : decide (x ≤ 57) = false := by simp; omega
          have f6 : decide (x = 95) = false := by simp; omega
          have g0 : ¬ (97 ≤ (x : Int)) := by omega
          have g1 : ((x : Int) ≤ 122) := by omega
          have g2 : ¬ (65 ≤ (x : Int)) := by omega
          have g3 : ((x : Int) ≤ 90) := by omega
          have g4 : (48 ≤ (x : Int)) := by omega
          have g5 : ¬ ((x : Int) ≤ 57) := by omega
          have g6 : ((x : Int) == 95) = false := beq_eq_false_iff_ne.2 (by omega)
          simp only [f0, f1, f2, f3, f4, f5, f6, Bool.and_true, Bool.and_false, Bool.false_and, Bool.or_false] at hd
          clear f0 f1 f2 f3 f4 f5 f6 ha
          subst hd
          go_wp2
          go_ret
          exact ⟨rfl, rfl⟩
        · have f0 : decide (97 ≤ x) = false := by simp; omega
          have f1 : decide (x ≤ 122) = true := by simp; omega
          have f2 : decide (65 ≤ x) = true := by simp; omega
          have f3 : decide (x ≤ 90) = true := by simp; omega
          have f4 : decide (48 ≤ x) = true := by simp; omega
          have f5 : decide (x ≤ 57) = false := by simp; omega
          have f6 : decide (x = 95) = false := by simp; omega
          have g0 : ¬ (97 ≤ (x : Int)) := by omega
          have g1 : ((x : Int) ≤ 122) := by omega
          have g2 : (65 ≤ (x : Int)) := by omega
          have g3 : ((x : Int) ≤ 90) := by omega
          have g4 : (48 ≤ (x : Int)) := by omega
          have g5 : ¬ ((x : Int) ≤ 57) := by omega
          have g6 : ((x : Int) == 95) = false := beq_eq_false_iff_ne.2 (by omega)
          simp only [f0, f1, f2, f3, f4, f5, f6, Bool.and_true, Bool.true_and, Bool.and_false, Bool.false_and, Bool.or_true, Bool.or_false] at hd
          clear f0 f1 f2 f3 f4 f5 f6 ha
          go_wp2
          exact ⟨⟨k + 1, hlt, by go_num, hd, trivial⟩, by simp [intOf]; omega⟩
        · have f0 : decide (97 ≤ x) = false := by simp; omega
          have f1 : decide (x ≤ 122) = true := by simp; omega
          have f2 : decide (65 ≤ x) = true := by simp; omega
          have f3 : decide (x ≤ 90) = false := by simp; omega
          have f4 : decide (48 ≤ x) = true := by simp; omega
          have f5 : decide (x ≤ 57) = false := by simp; omega
          have f6 : decide (x = 95) = false := by simp; omega
          have g0 : ¬ (97 ≤ (x : Int)) := by omega
          have g1 : ((x : Int) ≤ 122) := by omega
          have g2 : (65 ≤ (x : Int)) := by omega
          have g3 : ¬ ((x : Int) ≤ 90) := by omega
          have g4 : (48 ≤ (x : Int)) := by omega
          have g5 : ¬ ((x : Int) ≤ 57) := by omega
          have g6 : ((x : Int) == 95) = false := beq_eq_false_iff_ne.2 (by omega)
          simp only [f0, f1, f2, f3, f4, f5, f6, Bool.and_true, Bool.and_false, Bool.false_and, Bool.or_false] at hd
          clear f0 f1 f2 f3 f4 f5 f6 ha
          subst hd
          go_wp2
          go_ret
          exact ⟨rfl, rfl⟩
        · have f0 : decide (97 ≤ x) = false := by simp; omega
          have f1 : decide (x ≤ 122) = true := by simp; omega
          have f2 : decide (65 ≤ x) = true := by simp; omega
          have f3 : decide (x ≤ 90) = false := by simp; omega
          have f4 : decide (48 ≤ x) = true := by simp; omega
          have f5 : decide (x ≤ 57) = false := by simp; omega
          have f6 : decide (x = 95) = true := by simp; omega
          have g0 : ¬ (97 ≤ (x : Int)) := by omega
          have g1 : ((x : Int) ≤ 122) := by omega
          have g2 : (65 ≤ (x : Int)) := by omega
          have g3 : ¬ ((x : Int) ≤ 90) := by omega
          have g4 : (48 ≤ (x : Int)) := by omega
          have g5 : ¬ ((x : Int) ≤ 57) := by omega
          have g6 : x = 95 := by omega
          simp only [f0, f1, f2, f3, f4, f5, f6, Bool.and_true, Bool.true_and, Bool.and_false, Bool.false_and, Bool.or_true, Bool.or_false] at hd
          clear f0 f1 f2 f3 f4 f5 f6 ha
          subst g6
          go_wp2
          exact ⟨⟨k + 1, hlt, by go_num, hd, trivial⟩, by simp [intOf]; omega⟩
        · have f0 : decide (97 ≤ x) = false := by simp; omega
          have f1 : decide (x ≤ 122) = true := by simp; omega
          have f2 : decide (65 ≤ x) = true := by simp; omega
          have f3 : decide (x ≤ 90) = false := by simp; omega
          have f4 : decide (48 ≤ x) = true := by simp; omega
          have f5 : decide (x ≤ 57) = false := by simp; omega
          have f6 : decide (x = 95) = false := by simp; omega
          have g0 : ¬ (97 ≤ (x : Int)) := by omega
          have g1 : ((x : Int) ≤ 122) := by omega
          have g2 : (65 ≤ (x : Int)) := by omega
          have g3 : ¬ ((x : Int) ≤ 90) := by omega
          have g4 : (48 ≤ (x : Int)) := by omega
          have g5 : ¬ ((x : Int) ≤ 57) := by omega
          have g6 : ((x : Int) == 95) = false := beq_eq_false_iff_ne.2 (by omega)
          simp only [f0, f1, f2, f3, f4, f5, f6, Bool.and_true, Bool.and_false, Bool.false_and, Bool.or_false] at hd
          clear f0 f1 f2 f3 f4 f5 f6 ha
          subst hd
          go_wp2
          go_ret
          exact ⟨rfl, rfl⟩
        · have f0 : decide (97 ≤ x) = true := by simp; omega
          have f1 : decide (x ≤ 122) = true := by simp; omega
          have f2 : decide (65 ≤ x) = true := by simp; omega
          have f3 : decide (x ≤ 90) = false := by simp; omega
          have f4 : decide (48 ≤ x) = true := by simp; omega
          have f5 : decide (x ≤ 57) = false := by simp; omega
          have f6 : decide (x = 95) = false := by simp; omega
          have g0 : (97 ≤ (x : Int)) := by omega
          have g1 : ((x : Int) ≤ 122) := by omega
          have g2 : (65 ≤ (x : Int)) := by omega
          have g3 : ¬ ((x : Int) ≤ 90) := by omega
          have g4 : (48 ≤ (x : Int)) := by omega
          have g5 : ¬ ((x : Int) ≤ 57) := by omega
          have g6 : ((x : Int) == 95) = false := beq_eq_false_iff_ne.2 (by omega)
          simp only [f0, f1, f2, f3, f4, f5, f6, Bool.and_true, Bool.true_and, Bool.and_false, Bool.false_and, Bool.or_false] at hd
          clear f0 f1 f2 f3 f4 f5 f6 ha
          go_wp2
          exact ⟨⟨k + 1, hlt, by go_num, hd, trivial⟩, by simp [intOf]; omega⟩
        · have f0 : decide (97 ≤ x) = true := by simp; omega
          have f1 : decide (x ≤ 122) = false := by simp; omega
          have f2 : decide (65 ≤ x) = true := by simp; omega
          have f3 : decide (x ≤ 90) = false := by simp; omega
          have f4 : decide (48 ≤ x) = true := by simp; omega
          have f5 : decide (x ≤ 57) = false := by simp; omega
          have f6 : decide (x = 95) = false := by simp; omega
          have g0 : (97 ≤ (x : Int)) := by omega
          have g1 : ¬ ((x : Int) ≤ 122) := by omega
          have g2 : (65 ≤ (x : Int)) := by omega
          have g3 : ¬ ((x : Int) ≤ 90) := by omega
          have g4 : (48 ≤ (x : Int)) := by omega
          have g5 : ¬ ((x : Int) ≤ 57) := by omega
          have g6 : ((x : Int) == 95) = false := beq_eq_false_iff_ne.2 (by omega)
          simp only [f0, f1, f2, f3, f4, f5, f6, Bool.and_false, Bool.false_and, Bool.or_false] at hd
          clear f0 f1 f2 f3 f4 f5 f6 ha
          subst hd
          go_wp2
          go_ret
          exact ⟨rfl, rfl⟩
      · obtain rfl : k = s.size := by omega
        rw [List.drop_of_length_le (by rw [size_data]; exact Nat.le_refl _)] at hd
        have hv : V = true := by rw [← hd]; rfl
        subst hv
        clear hd
        go_wp2
        go_ret
        exact ⟨ret_bool (by simp; omega), rfl⟩
end Go.Proofs.YtmaefhnlipcmoaaDoor
