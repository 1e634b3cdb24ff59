/- provostref01.Text: the bytes of code points, one behind another. Conditions: each a code point. -/
import Derived.Test.YtllfgkfcbicnlaaDoorRune
import Derived.Shelf.Bytes.SlSmallAll
namespace Go.Proofs.YtllfgkfcbicnlaaDoor
open Go.RowKit Go.ChangeShapes Go.WideShapes Go.ChangeAt
def iv (xs : List Int) : List Value := xs.map fun x => Value.int .i64 x
def enc (xs : List Int) : List Value := xs.flatMap Lib.runeCells
def encZ (xs : List Int) : List Int := xs.flatMap Lib.encodeRuneZ
theorem enc_nums (xs : List Int) : enc xs = (encZ xs).map (Value.int .u8) := by
  simp only [enc, encZ, List.map_flatMap]
  rfl
theorem own_text {w : World} {base n : Nat} {v : Value} {zs : List Int} (hn : n = zs.length) (h : w.ownsRow base 5 1 v n (zs.map (Value.int .u8))) :
    (convert 40 9 v).run Tryd.prog w = .ok (.string (strOfNums zs)) w := by
  subst hn
  obtain ⟨A, c, rfl, _, _⟩ := own_slice h
  rcases Rd.of_own h with h0 | ⟨b, off, rfl, _, hc⟩
  · obtain rfl : zs = [] := by simpa using h0
    exact run_convert_bytes_zero w _ _ Tryd.underlying40 Tryd.underlying5 A c _ Tryd.underlying9
  · exact run_convert_bytes_arg w _ _ Tryd.underlying40 Tryd.underlying5 b off _ c zs rfl (fun i hi => by rw [hc i (by simpa using hi)]; simp [List.getD, List.getElem?_eq_getElem hi]) _ Tryd.underlying9
theorem own_ge {w : World} {base n : Nat} {e : TypeId} {sz : Nat} {v : Value} {xs : List Value} (h : w.ownsRow base e sz v n xs) : ∀ g, v.ownBlock = some g → base ≤ g := by
  intro g hg
  rcases h.2 with ⟨rfl, _⟩ | ⟨g', cap, cur, rfl, hg', hh, r⟩
  · simp [Value.ownBlock] at hg
  · simp [Value.ownBlock] at hg
    subst hg
    exact hg'
theorem enc_len (xs : List Int) (k : Nat) (h : xs.length ≤ 17000) : (enc (xs.take k)).length ≤ 68000 := by
  have : ∀ ys : List Int, (enc ys).length ≤ 4 * ys.length := by
    intro ys
    induction ys with
    | nil => simp [enc]
    | cons y r ih =>
      have := (Lib.runeCells_le y).2
      simp only [enc, List.flatMap_cons, List.length_append, List.length_cons] at ih ⊢
      omega
  have h2 := this (xs.take k)
  have : (xs.take k).length ≤ xs.length := by simp; omega
  omega
end Go.Proofs.YtllfgkfcbicnlaaDoor
