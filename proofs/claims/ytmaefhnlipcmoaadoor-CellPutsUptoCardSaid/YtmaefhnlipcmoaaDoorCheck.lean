/- Contracts of text.Check. Conditions: Go's two tables of utf8. -/
import Derived.Test.YtmaefhnlipcmoaaDoorTab
import Derived.Test.YtmaefhnlipcmoaaDoorShelf
import Derived.Test.YtmaefhnlipcmoaaDoorChain
namespace Go.Proofs.YtmaefhnlipcmoaaDoor
open Go.RowKit Go.Lib
def checkV (s : ByteArray) : Nat := if 16384 < s.size then 4 else if Lib.validD s.data.toList = true then 0 else 10
theorem check_any (s : ByteArray) (w : World) (hs : s.size ≤ maxLen) (hT : Tabs w) :
    Calls Tryd.prog 55 #[.string s] w fun e w' => e = .returned (.int .i64 (checkV s)) ∧ Below w.heap.size w w' := by
  unfold maxLen at hs
  by_cases h : (16384 : Int) < s.size
  · have e1 : checkV s = 4 := by unfold checkV; rw [if_pos (by omega)]
    rw [e1]
    go_enter Tryd.func55, Tryd.ntmps55
    go_wp2
    go_ret
    exact ⟨rfl, Below.refl _ _⟩
  · have hc := Tryd.utf8_ValidString s w (by omega) hT
    cases hv : Lib.validD s.data.toList with
    | true =>
      have e1 : checkV s = 0 := by unfold checkV; rw [if_neg (by omega), if_pos hv]
      rw [e1]
      rw [hv] at hc
      clear e1 hv
      go_enter Tryd.func55, Tryd.ntmps55
      go_wp2_with fail
      refine hc.mono ?_
      rintro e w1 ⟨rfl, hb1⟩
      go_wp2
      go_ret
      exact ⟨rfl, hb1⟩
    | false =>
      have e1 : checkV s = 10 := by unfold checkV; rw [if_neg (by omega), if_neg (by rw [hv]; simp)]
      rw [e1]
      rw [hv] at hc
      clear e1 hv
      go_enter Tryd.func55, Tryd.ntmps55
      go_wp2_with fail
      refine hc.mono ?_
      rintro e w1 ⟨rfl, hb1⟩
      go_wp2
      go_ret
      exact ⟨rfl, hb1⟩
end Go.Proofs.YtmaefhnlipcmoaaDoor
