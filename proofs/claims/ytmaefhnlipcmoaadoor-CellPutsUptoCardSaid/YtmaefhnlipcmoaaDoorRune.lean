/- What a code point is, and its bytes: provostref01.Is and Bytes. Conditions: the number a code point (Bytes). -/
import Derived.Test.YtmaefhnlipcmoaaDoorOwn
import Derived.Test.YtmaefhnlipcmoaaDoorChecked
import Derived.Lib.RuneBytes
namespace Go.Proofs.YtmaefhnlipcmoaaDoor
open Go.RowKit

def isPoint (n : Int) : Bool := decide (0 ≤ n) && decide (n ≤ 1114111) && (decide (n < 55296) || decide (57343 < n))
theorem is_any (n : Int) (w : World) : Calls Tryd.prog 97 #[.int .i64 n] w fun e w' => e = .returned (.bool (isPoint n)) ∧ w' = w := by
  go_enter Tryd.func97, Tryd.ntmps97
  by_cases h1 : 0 ≤ n
  · by_cases h2 : n ≤ 1114111
    · by_cases h3 : n < 55296
      · go_wp2
        go_ret
        exact ⟨ret_bool (by simp [isPoint] <;> omega), rfl⟩
      · have h4 : 55296 ≤ n := by omega
        by_cases h5 : 57343 < n
        · go_wp2
          go_ret
          exact ⟨ret_bool (by simp [isPoint] <;> omega), rfl⟩
        · go_wp2
          go_ret
          exact ⟨ret_bool (by simp [isPoint] <;> omega), rfl⟩
    · go_wp2
      go_ret
      exact ⟨ret_bool (by simp [isPoint] <;> omega), rfl⟩
  · go_wp2
    go_ret
    exact ⟨ret_bool (by simp [isPoint] <;> omega), rfl⟩

theorem bytes_any (n : Int) (h0 : 0 ≤ n) (h1 : n ≤ 1114111) (h2 : n < 55296 ∨ 57343 < n) (w : World) :
    Calls Tryd.prog 98 #[.int .i64 n] w fun e w' => ∃ arr : Array Value, e = .returned (.slice (some ⟨w.heap.size, 0, none⟩) arr.size arr.size) ∧ arr.toList = Lib.runeCells n ∧ w' = w.alloc (.cells arr 5) := by
  go_enter Tryd.func98, Tryd.ntmps98
  by_cases c1 : n < 128
  · go_wp2
    go_ret
    exact ⟨_, rfl, by simp [Lib.runeCells, Lib.encodeRuneZ_one h0 (by omega)], rfl⟩
  · by_cases c2 : n < 2048
    · go_wp2
      go_ret
      exact ⟨_, rfl, by simp [Lib.runeCells, Lib.encodeRuneZ_two (show 128 ≤ n by omega) (by omega)], rfl⟩
    · by_cases c3 : n < 65536
      · go_wp2
        go_ret
        exact ⟨_, rfl, by simp [Lib.runeCells, Lib.encodeRuneZ_three (r := n) (by omega)], rfl⟩
      · go_wp2
        go_ret
        exact ⟨_, rfl, by simp [Lib.runeCells, Lib.encodeRuneZ_four (show 65536 ≤ n by omega) h1], rfl⟩
end Go.Proofs.YtmaefhnlipcmoaaDoor
