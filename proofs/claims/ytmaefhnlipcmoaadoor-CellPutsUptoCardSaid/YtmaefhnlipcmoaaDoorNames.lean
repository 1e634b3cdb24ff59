/- The map of names that the closure of cell.behind keeps: what is asked of it, what is put. Conditions: lengths within the model's. -/
import Derived.Test.YtmaefhnlipcmoaaDoorWst
import Derived.Test.YtmaefhnlipcmoaaDoorRefTx
import Derived.Maps.OwnSet
namespace Go.Proofs.YtmaefhnlipcmoaaDoor
open Go.RowKit Go.Maps Go.WideMaps
theorem str_law : Keyed Tryd.prog 9 := string_keyed Tryd.underlying9
theorem zero_int (w : World) : (zeroValue 3).run Tryd.prog w = .ok (.int .i64 0) w := by kernel_rfl
def one (ns : List ByteArray) (s : ByteArray) : Int := if amongL ns s = true then 1 else 0
structure Names (w : World) (b k : Nat) (ns : List ByteArray) : Prop where
  out : ∃ D : DataW Unit, w.ownsMap Tryd.prog 9 (plainElem Tryd.prog 3) b k D ∧ ∀ s : ByteArray, D.atKey (.string s.data.toList) (.lit (.int .i64 0)) = .lit (.int .i64 (one ns s))
theorem Names.made (w : World) : Names (w.alloc (.map #[] 0)) w.heap.size 0 [] :=
  ⟨.map [], World.ownsMap_made _ _ _ _, fun _ => rfl⟩
theorem Names.kept {w w' : World} {b k : Nat} {ns : List ByteArray} (h : Names w b k ns) {r : Option Nat} (hg : w.grownBy w' r) (hne : some b ≠ r) : Names w' b k ns := by
  obtain ⟨D, h1, h2⟩ := h.out
  exact ⟨D, h1.kept hg hne, h2⟩
theorem Names.lt {w : World} {b k : Nat} {ns : List ByteArray} (h : Names w b k ns) : b < w.heap.size := by
  obtain ⟨D, h1, h2⟩ := h.out
  exact h1.lt
theorem Names.look {w : World} {b k : Nat} {ns : List ByteArray} (h : Names w b k ns) (s : ByteArray) (hs : s.size ≤ maxLen) :
    (Instr.lookup 81 (.map (some b)) (.string s) false).run Tryd.prog w = .ok (.int .i64 (one ns s)) w := by
  obtain ⟨D, h1, h2⟩ := h.out
  obtain ⟨c, hrun, hat, _⟩ := h1.lookup_int str_law Tryd.underlying81 Tryd.underlying3 (zero_int _) (keyOf_string_mk Tryd.underlying9 hs)
  rw [h2 s] at hat
  simp only [DataW.lit.injEq, Lit.int.injEq, true_and] at hat
  rw [hat]
  exact hrun
theorem one_cons (ns : List ByteArray) (n s : ByteArray) : one (n :: ns) s = if n = s then 1 else one ns s := by
  unfold one amongL
  by_cases h : n = s
  · simp [h]
  · rw [List.any_cons, decide_eq_false h, Bool.false_or, if_neg h]
theorem Names.put {w : World} {b k : Nat} {ns : List ByteArray} (h : Names w b k ns) (n : ByteArray) (hs : n.size ≤ maxLen) (hk : k < maxLen) :
    ∃ w', (Instr.mapUpdate 81 (.map (some b)) (.string n) (.int .i64 1)).run Tryd.prog w = .ok () w' ∧ Names w' b (k + 1) (n :: ns) ∧ w.grownBy w' (some b) := by
  obtain ⟨D, h1, h2⟩ := h.out
  obtain ⟨w', hrun, hown, hg⟩ := h1.update str_law Tryd.underlying81 hk (keyOf_string_mk Tryd.underlying9 hs) (plainElem_int Tryd.underlying3 (a := 1) (by decide))
  refine ⟨w', hrun, ⟨_, hown, fun s => ?_⟩, hg⟩
  rw [one_cons]
  by_cases e : n = s
  · subst e
    rw [if_pos rfl, atKey_put_same (h1.isMap) (by trivial)]
  · rw [if_neg e, atKey_put_other (fun g => e ?_)]
    · exact h2 s
    · simp only [Lit.string.injEq] at g
      exact (ba_ext (by rw [Lib.toList_data, Lib.toList_data]; exact g)).symm
theorem St.map {w0 w w' : World} {A : Option Addr} {cap : Nat} {xs : List Cel} {bv ba bw be bE bm : Nat} {E : List Int} (h : St w0 w A cap xs bv ba bw be bE E) (hg : w.grownBy w' (some bm)) (h0 : w0.heap.size ≤ bm)
    (hk : bm ≠ bv ∧ bm ≠ ba ∧ bm ≠ bw ∧ bm ≠ be ∧ bm ≠ bE) : St w0 w' A cap xs bv ba bw be bE E := by
  obtain ⟨l1, l2, l3, l4, l5⟩ := h.lt
  obtain ⟨k1, k2, k3, k4, k5⟩ := hk
  exact ⟨h.below.grown hg h.below.size (fun k e => by cases e; exact h0), hg.cell h.hv (fun e => k1 (Option.some.inj e).symm), (hg.block _ l2 (fun e => k2 (Option.some.inj e).symm)).trans h.hk, hg.cell h.hw (fun e => k3 (Option.some.inj e).symm), hg.cell h.he (fun e => k4 (Option.some.inj e).symm), (hg.block _ l5 (fun e => k5 (Option.some.inj e).symm)).trans h.hE, h.len, h.b0, h.n1, h.n2, h.n3, h.n4⟩
end Go.Proofs.YtmaefhnlipcmoaaDoor
