/- Contracts of text.Check, text.Count. Conditions: Go's two tables of utf8. -/
import Derived.Test.YtllfgkfcbicnlaaDoorNext
import Derived.Test.YtllfgkfcbicnlaaDoorChain
namespace Go.Proofs.YtllfgkfcbicnlaaDoor
open Go.RowKit Go.Lib
def checkV (s : ByteArray) : Nat := if 16384 < s.size then 4 else if Lib.validD s.data.toList = true then 0 else 10
theorem check_any (s : ByteArray) (w : World) (hs : s.size ≤ maxLen) (hT : Tabs w) :
    Calls Tryd.prog 19 #[.string s] w fun e w' => e = .returned (.int .i64 (checkV s)) ∧ Below w.heap.size w w' := by
  unfold maxLen at hs
  by_cases h : (16384 : Int) < s.size
  · have e1 : checkV s = 4 := by unfold checkV; rw [if_pos (by omega)]
    rw [e1]
    go_enter Tryd.func19, Tryd.ntmps19
    go_wp2
    go_ret
    exact ⟨rfl, Below.refl _ _⟩
  · have hc := Tryd.utf8_ValidString s w (by omega) hT
    cases hv : Lib.validD s.data.toList with
    | true =>
      have e1 : checkV s = 0 := by unfold checkV; rw [if_neg (by omega), if_pos hv]
      rw [e1]
      rw [hv] at hc
      clear e1 hv
      go_enter Tryd.func19, Tryd.ntmps19
      go_wp2_with fail
      refine hc.mono ?_
      rintro e w1 ⟨rfl, hb1⟩
      go_wp2
      go_ret
      exact ⟨rfl, hb1⟩
    | false =>
      have e1 : checkV s = 10 := by unfold checkV; rw [if_neg (by omega), if_neg (by rw [hv]; simp)]
      rw [e1]
      rw [hv] at hc
      clear e1 hv
      go_enter Tryd.func19, Tryd.ntmps19
      go_wp2_with fail
      refine hc.mono ?_
      rintro e w1 ⟨rfl, hb1⟩
      go_wp2
      go_ret
      exact ⟨rfl, hb1⟩
theorem check_cases (s : ByteArray) : checkV s = 0 ∨ checkV s = 4 ∨ checkV s = 10 := by
  unfold checkV
  repeat' split
  all_goals simp
def countV (s : ByteArray) : Nat := if checkV s = 0 then Lib.runeCount s else 0
theorem count_any (s : ByteArray) (w : World) (hs : s.size ≤ maxLen) (hT : Tabs w) :
    Calls Tryd.prog 17 #[.string s] w fun e w' => e = .returned (.tuple #[.int .i64 (countV s), .int .i64 (checkV s)]) ∧ Below w.heap.size w w' := by
  have hc := check_any s w hs hT
  by_cases h : checkV s = 0
  · have e1 : countV s = Lib.runeCount s := by unfold countV; rw [if_pos h]
    have hz : s.size < 9223372036854775807 := by
      unfold checkV at h
      split at h
      · cases h
      · omega
    rw [e1, h]
    rw [h] at hc
    clear e1 h
    go_enter Tryd.func17, Tryd.ntmps17
    go_wp2_with fail
    refine hc.mono ?_
    rintro e w1 ⟨rfl, hb1⟩
    go_wp2_with fail
    refine (Tryd.utf8_RuneCountInString s _ hz).mono ?_
    rintro e w2 ⟨rfl, pos, rfl⟩
    go_wp2
    go_ret2
    exact ⟨rfl, hb1.alloc hb1.size _⟩
  · have e1 : countV s = 0 := by unfold countV; rw [if_neg h]
    obtain ⟨k, hk⟩ : ∃ k, checkV s = k := ⟨_, rfl⟩
    rw [e1, hk]
    rw [hk] at hc h
    have h2 : ((k : Int) == 0) = false := by rw [beq_eq_false_iff_ne]; omega
    clear e1 hk
    go_enter Tryd.func17, Tryd.ntmps17
    go_wp2_with fail
    refine hc.mono ?_
    rintro e w1 ⟨rfl, hb1⟩
    go_wp2
    go_ret2
    exact ⟨rfl, hb1⟩
end Go.Proofs.YtllfgkfcbicnlaaDoor
