/- What the next code point is, and Go's two tables of utf8. Conditions: none. -/
import Derived.Test.YtmaefhnlipcmoaaDoorOwn
import Derived.Test.YtmaefhnlipcmoaaDoorUtf
import Derived.Test.YtmaefhnlipcmoaaDoorChecked
import Derived.WalkLawsBesides
import Derived.WalkSpells
import Derived.Lib.LaidU8
namespace Go.Proofs.YtmaefhnlipcmoaaDoor
open Go.RowKit Go.Lib
def told (d : Nat × Nat) : Nat × Nat × Nat := if d.1 = 65533 ∧ d.2 < 3 then (0, 0, 10) else (d.1, d.2, 0)
def nextV (s : ByteArray) (a : Int) : Nat × Nat × Nat := if a < 0 ∨ (s.size : Int) ≤ a then (0, 0, 2) else told (dec (byt s) s.size a.toNat)
def backV (s : ByteArray) (a : Int) : Nat × Nat × Nat := if a < 1 ∨ (s.size : Int) < a then (0, 0, 2) else told (decLast (byt s) a.toNat)
theorem dec_bd (B : Nat → Nat) (hb : ∀ j, B j < 256) (n i : Nat) : (dec B n i).1 ≤ 1114111 ∧ 1 ≤ (dec B n i).2 ∧ (dec B n i).2 ≤ 4 := by
  refine ⟨Lib.decodeN_rune_le _ _ _ _ _ (hb _), Lib.decodeN_ge1 _ _ _ _ _, ?_⟩
  unfold dec decodeN
  repeat' split
  all_goals simp
theorem decLast_bd (B : Nat → Nat) (hb : ∀ j, B j < 256) (e : Nat) : (decLast B e).1 ≤ 1114111 ∧ (decLast B e).2 ≤ 4 := by
  unfold decLast
  have := dec_bd B hb e (st B e)
  have := hb (e - 1)
  repeat' split
  all_goals (try simp only)
  all_goals omega
abbrev Tabs (w : World) : Prop := Lib.Utf8Tabs 0 1 w
theorem Tabs.below {w w' : World} (h : Tabs w) (hb : Below w.heap.size w w') : Tabs w' := Utf8Tabs_below h hb
end Go.Proofs.YtmaefhnlipcmoaaDoor
