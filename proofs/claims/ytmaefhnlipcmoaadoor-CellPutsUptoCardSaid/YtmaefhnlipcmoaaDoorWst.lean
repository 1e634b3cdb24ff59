/- What the closure of cell.behind finds in memory, and what it leaves. Conditions: none. -/
import Derived.Test.YtmaefhnlipcmoaaDoorKinds
import Derived.Maps.OwnOps
import Derived.Maps.Views
namespace Go.Proofs.YtmaefhnlipcmoaaDoor
open Go.RowKit
def iv (E : List Int) : List Value := E.map (Value.int .i64)
theorem iv_len (E : List Int) : (iv E).length = E.length := by simp [iv]
theorem of_below {bE : Option Nat} {w w' : World} (h : Below w.heap.size w w') : w.grownBy w' bE := ⟨h.os, h.tape, h.output, h.size, fun i hi _ => h.block i hi⟩
theorem grown_trans {r : Option Nat} {a b c : World} (h : a.grownBy b r) (k : b.grownBy c r) : a.grownBy c r :=
  ⟨k.os.trans h.os, k.tape.trans h.tape, k.output.trans h.output, Nat.le_trans h.size k.size, fun i hi hn => (k.block i (Nat.lt_of_lt_of_le hi h.size) hn).trans (h.block i hi hn)⟩
theorem grown_set (w : World) (b i : Nat) (v : Value) : w.grownBy (w.setCell ⟨b, i, none⟩ v) (some b) :=
  ⟨rfl, rfl, rfl, by simp [World.setCell], fun k _ hn => Below.heap_setCell w _ v k (fun e => hn (by rw [e]))⟩
structure St (w0 w : World) (A : Option Addr) (cap : Nat) (xs : List Cel) (bv ba bw be bE : Nat) (E : List Int) : Prop where
  below : Below w0.heap.size w0 w
  hv : w.cell? ⟨bv, 0, none⟩ = some (.slice A xs.length cap)
  hk : w.heap[ba]? = some (.cells kindsA 78)
  hw : w.cell? ⟨bw, 0, none⟩ = some (.func (.func 54) #[] #[.pointer (some ⟨bv, 0, none⟩), .pointer (some ⟨ba, 0, none⟩), .pointer (some ⟨bw, 0, none⟩), .pointer (some ⟨be, 0, none⟩)])
  he : w.cell? ⟨be, 0, none⟩ = some (.slice (some ⟨bE, 0, none⟩) xs.length xs.length)
  hE : w.heap[bE]? = some (.cells (iv E).toArray 3)
  len : E.length = xs.length
  b0 : w0.heap.size ≤ bE
  n1 : bv ≠ bE
  n2 : ba ≠ bE
  n3 : bw ≠ bE
  n4 : be ≠ bE
variable {w0 w w' : World} {A : Option Addr} {cap : Nat} {xs : List Cel} {bv ba bw be bE : Nat} {E : List Int}
theorem St.lt (h : St w0 w A cap xs bv ba bw be bE E) : bv < w.heap.size ∧ ba < w.heap.size ∧ bw < w.heap.size ∧ be < w.heap.size ∧ bE < w.heap.size :=
  ⟨World.block_lt_of_cell? w _ h.hv, (Array.getElem?_eq_some_iff.1 h.hk).1, World.block_lt_of_cell? w _ h.hw, World.block_lt_of_cell? w _ h.he, (Array.getElem?_eq_some_iff.1 h.hE).1⟩
theorem St.grow (h : St w0 w A cap xs bv ba bw be bE E) (hb : Below w.heap.size w w') : St w0 w' A cap xs bv ba bw be bE E := by
  obtain ⟨l1, l2, l3, l4, l5⟩ := h.lt
  exact ⟨h.below.trans (hb.mono h.below.size), (hb.cell l1).trans h.hv, (hb.block _ l2).trans h.hk, (hb.cell l3).trans h.hw, (hb.cell l4).trans h.he, (hb.block _ l5).trans h.hE, h.len, h.b0, h.n1, h.n2, h.n3, h.n4⟩
theorem St.set (h : St w0 w A cap xs bv ba bw be bE E) (i : Nat) (v : Int) (_hi : i < xs.length) : St w0 (w.setCell ⟨bE, i, none⟩ (.int .i64 v)) A cap xs bv ba bw be bE (E.set i v) := by
  have hg := grown_set w bE i (.int .i64 v)
  obtain ⟨l1, l2, l3, l4, l5⟩ := h.lt
  refine ⟨h.below.setCell h.b0 _, hg.cell h.hv (by simpa using h.n1), (hg.block _ l2 (by simpa using h.n2)).trans h.hk, hg.cell h.hw (by simpa using h.n3), hg.cell h.he (by simpa using h.n4), ?_, by simp [h.len], h.b0, h.n1, h.n2, h.n3, h.n4⟩
  simp only [World.setCell, Array.getElem?_modify, if_true, h.hE, Option.map_some, Option.some.injEq, Obj.cells.injEq, and_true]
  simp [iv, List.map_set]
theorem St.frozen (h : St w0 w A cap xs bv ba bw be bE E) (i : Nat) : w.frozen? ⟨bE, i, none⟩ = false := by
  simp [World.frozen?, h.hE]
theorem St.ends (h : St w0 w A cap xs bv ba bw be bE E) (i : Nat) (hi : i < xs.length) : w.cell? ⟨bE, i, none⟩ = some (.int .i64 (E.getD i 0)) := by
  have hl : i < E.length := by rw [h.len]; exact hi
  rw [cell_of_row w bE i _ _ (0, 0) h.hE]
  simp [iv, List.getD_eq_getElem?_getD, List.getElem?_eq_getElem hl]
theorem St.kind (h : St w0 w A cap xs bv ba bw be bE E) (i : Nat) : w.cell? ⟨ba, i, none⟩ = kindsA[i]? := cell_of_row w ba i _ _ (0, 0) h.hk
/-- what the closure leaves: below the place nothing has turned; from there to the end each place has its end -/
def Ends (xs : List Cel) (d a : Nat) (E E' : List Int) : Prop :=
  (∀ i, i < a → E'.getD i 0 = E.getD i 0) ∧ ∀ e, bh xs d a = some e → ∀ i, a ≤ i → i < e → ∃ n : Nat, bh xs 16 i = some n ∧ E'.getD i 0 = (n : Int)
abbrev WalkPost (w0 w : World) (A : Option Addr) (cap : Nat) (xs : List Cel) (bv ba bw be bE : Nat) (E : List Int) (d a : Nat) (e : Ending) (w' : World) : Prop :=
  e = .returned (.int .i64 (ans (bh xs d a))) ∧ w.grownBy w' (some bE) ∧ ∃ E', St w0 w' A cap xs bv ba bw be bE E' ∧ Ends xs d a E E'
theorem ends_none {d a : Nat} (h : bh xs d a = none) : Ends xs d a E E := ⟨fun _ _ => rfl, fun e he => by rw [h] at he; cases he⟩
theorem ends_leaf {d a : Nat} (hd : d ≤ 16) (hl : a < E.length) (h : bh xs d a = some (a + 1)) : Ends xs d a E (E.set a ((a : Int) + 1)) := by
  refine ⟨fun i hi => ?_, fun e he i h1 h2 => ?_⟩
  · simp only [List.getD_eq_getElem?_getD]
    rw [List.getElem?_set_ne (by omega)]
  · rw [h] at he
    simp only [Option.some.injEq] at he
    obtain rfl : i = a := by omega
    refine ⟨i + 1, bh_mono xs hd h, ?_⟩
    simp only [List.getD_eq_getElem?_getD]
    rw [List.getElem?_set_self hl]
    simp
end Go.Proofs.YtmaefhnlipcmoaaDoor
