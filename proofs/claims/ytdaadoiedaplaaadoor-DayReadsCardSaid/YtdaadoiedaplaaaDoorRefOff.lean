/- The reference's offset, in plain words. Conditions: those of each theorem. -/
import Derived.Test.YtdaadoiedaplaaaDoorRefNum
namespace Go.Proofs.YtdaadoiedaplaaaDoor
open Go.RowKit Go.Lib
theorem numR_bd (l : List UInt8) (a : Nat) : -1 ≤ numR l a 2 ∧ numR l a 2 ≤ 99 := by
  unfold numR
  split
  · rename_i h
    have := val_lt ((l.drop a).take 2) h.2 rfl
    have h2 : 10 ^ ((l.drop a).take 2).length ≤ 10 ^ 2 := Nat.pow_le_pow_right (by omega) (by rw [List.length_take]; omega)
    omega
  · omega
/-- what six bytes tell: of the first one and the fourth one, and the two numbers -/
def off6 (c0 c3 : Nat) (h m : Int) : Option Int :=
  if (c0 = 43 ∨ c0 = 45) ∧ c3 = 58 ∧ 0 ≤ h ∧ h ≤ 23 ∧ 0 ≤ m ∧ m ≤ 59 then some (if c0 = 45 then -60 * h - m else 60 * h + m) else none
def offR (l : List UInt8) : Option Int :=
  if l = [90] ∨ l = [122] then some 0
  else if l.length = 6 then off6 (l.getD 0 0).toNat (l.getD 3 0).toNat (numR l 1 2) (numR l 4 2)
  else none
def offV (o : Option Int) : Value := .tuple #[.int .i64 (o.getD 0), .bool o.isSome]
set_option maxHeartbeats 4000000 in
set_option maxRecDepth 100000 in
theorem offset_ref (s : ByteArray) (hs : s.size ≤ maxLen) (w : World) :
    Calls Tryd.prog 31 #[.string s] w fun e w' => e = .returned (offV (offR s.data.toList)) ∧ w = w' := by
  have hlen := ba_len s
  by_cases h1 : s.data.toList = [90]
  · obtain rfl : s = ⟨#[90]⟩ := by cases s; congr; exact Array.toList_inj.1 h1
    go_enter Tryd.func31, Tryd.ntmps31
    go_wp2_with fail
    go_ret2
    exact ⟨rfl, rfl⟩
  · by_cases h2 : s.data.toList = [122]
    · obtain rfl : s = ⟨#[122]⟩ := by cases s; congr; exact Array.toList_inj.1 h2
      go_enter Tryd.func31, Tryd.ntmps31
      go_wp2_with fail
      go_ret2
      exact ⟨rfl, rfl⟩
    · have g1 : (s.toList == [90]) = false := by rw [ByteArray.toList_eq, beq_eq_false_iff_ne]; exact h1
      have g2 : (s.toList == [122]) = false := by rw [ByteArray.toList_eq, beq_eq_false_iff_ne]; exact h2
      have n1 := fun W => number_ref s 1 2 (by omega) (by omega) hs W
      have n2 := fun W => number_ref s 4 2 (by omega) (by omega) hs W
      obtain ⟨b1, b2⟩ := numR_bd s.data.toList 1
      obtain ⟨b3, b4⟩ := numR_bd s.data.toList 4
      obtain ⟨V, hV⟩ : ∃ V, offR s.data.toList = V := ⟨_, rfl⟩
      have hV' := hV
      unfold offR at hV'
      rw [if_neg (by rintro (h | h); exact h1 h; exact h2 h)] at hV'
      rw [hV]
      clear hV h1 h2
      generalize numR s.data.toList 1 2 = h at *
      generalize numR s.data.toList 4 2 = m at *
      by_cases h6 : s.size = 6
      · rw [if_pos (by omega)] at hV'
        have e0 : s.data.toList.getD 0 0 = s[0]'(by omega) := by
          rw [List.getD_eq_getElem?_getD, List.getElem?_eq_getElem (by omega)]; simp; rfl
        have e3 : s.data.toList.getD 3 0 = s[3]'(by omega) := by
          rw [List.getD_eq_getElem?_getD, List.getElem?_eq_getElem (by omega)]; simp; rfl
        rw [e0, e3] at hV'
        clear e0 e3
        have HV := Lib.hid hV'
        clear hV'
        have h6' : (s.size : Int) = 6 := by omega
        go_enter Tryd.func31, Tryd.ntmps31
        go_wp2_with fail
        refine (n1 _).mono ?_
        rintro e w' ⟨rfl, rfl⟩
        go_wp2_with fail
        refine (n2 _).mono ?_
        rintro e w' ⟨rfl, rfl⟩
        go_wp2_with fail
        all_goals
          go_ret2
          refine ⟨ret_v ?_, rfl⟩
          rw [← HV.out]
          unfold off6
          first
            | (rw [if_neg (by omega)]; rfl)
            | (rw [if_pos (by omega), if_pos (by omega)]; rfl)
            | (rw [if_pos (by omega), if_neg (by omega)]; rfl)
      · rw [if_neg (by omega)] at hV'
        subst hV'
        have h6' : ((s.size : Int) != 6) = true := by rw [bne_iff_ne]; omega
        go_enter Tryd.func31, Tryd.ntmps31
        go_wp2_with fail
        refine (n1 _).mono ?_
        rintro e w' ⟨rfl, rfl⟩
        go_wp2_with fail
        refine (n2 _).mono ?_
        rintro e w' ⟨rfl, rfl⟩
        go_wp2_with fail
        go_ret2
        exact ⟨rfl, rfl⟩
end Go.Proofs.YtdaadoiedaplaaaDoor
