/- Lemmas on rows that a call owns: what several stores in a row leave, and how an owned row reads. Conditions: none. -/
import Derived.Test.YtmaefhnlipcmoaaDoorBase
import Derived.Laws.IdiomCopy
namespace Go.Proofs.YtmaefhnlipcmoaaDoor
open Go.RowKit

def putA : Array Value → Nat → List Value → Array Value
  | c, _, [] => c
  | c, o, v :: r => putA (c.setIfInBounds o v) (o + 1) r
theorem putA_size : ∀ (vs : List Value) (c : Array Value) (o : Nat), (putA c o vs).size = c.size
  | [], _, _ => rfl
  | v :: r, c, o => by rw [putA, putA_size r]; simp
theorem putA_list : ∀ (vs : List Value) (c : Array Value) (o : Nat), o + vs.length ≤ c.size → (putA c o vs).toList = c.toList.take o ++ vs ++ c.toList.drop (o + vs.length)
  | [], c, o, _ => by simp [putA]
  | v :: r, c, o, h => by
    simp only [List.length_cons] at h
    rw [putA, putA_list r _ _ (by simp; omega)]
    have hl : (c.toList.take o).length = o := by rw [List.length_take, Array.length_toList]; omega
    rw [Array.toList_setIfInBounds, List.set_eq_take_append_cons_drop, if_pos (by rw [Array.length_toList]; omega)]
    have e1 : (c.toList.take o).take (o + 1) = c.toList.take o := List.take_of_length_le (by omega)
    have e2 : (c.toList.take o).drop (o + 1 + r.length) = [] := List.drop_of_length_le (by omega)
    rw [List.take_append, List.drop_append, e1, e2, hl, show o + 1 - o = 1 by omega, show o + 1 + r.length - o = r.length + 1 by omega]
    simp only [List.take_succ_cons, List.take_zero, List.drop_succ_cons, List.nil_append, List.drop_drop, List.append_assoc, List.cons_append, List.length_cons]
    rw [show o + 1 + r.length = o + (r.length + 1) by omega]
theorem heap_setCells {g : Nat} {e : TypeId} : ∀ (vs : List Value) (o : Nat) (w : World) (cur : Array Value), w.heap[g]? = some (.cells cur e (0, 0)) →
    (w.setCells g o vs).heap[g]? = some (.cells (putA cur o vs) e (0, 0))
  | [], _, _, _, h => h
  | v :: r, o, w, cur, h => by
    rw [World.setCells, putA]
    apply heap_setCells r
    simp [World.setCell, Array.getElem?_modify, h]
theorem below_setCells' {B g : Nat} (hg : B ≤ g) : ∀ (vs : List Value) (o : Nat) (w : World), Below B w (w.setCells g o vs)
  | [], _, _ => Below.refl _ _
  | v :: r, o, w => by
    rw [World.setCells]
    exact ((Below.refl B w).setCell hg v).trans (below_setCells' hg r (o + 1) _)
theorem heap_size_setCells (g : Nat) : ∀ (vs : List Value) (o : Nat) (w : World), (w.setCells g o vs).heap.size = w.heap.size
  | [], _, _ => rfl
  | v :: r, o, w => by rw [World.setCells, heap_size_setCells g r]; simp [World.setCell]
theorem Rd.of_own {w : World} {base n c : Nat} {e : TypeId} {A : Option Addr} {xs : List Value} (h : w.ownsRow base e 1 (.slice A n c) n xs) : Rd w w.heap.size A xs := by
  obtain ⟨h1, h2⟩ := h
  rcases h2 with ⟨h3, rfl⟩ | ⟨g, cap, cur, h3, hg, hh, hn, hc, hs, ht⟩
  · left
    exact List.eq_nil_of_length_eq_zero (by omega)
  · simp only [Value.slice.injEq] at h3
    obtain ⟨rfl, _, rfl⟩ := h3
    right
    refine ⟨g, 0, rfl, ?_, fun j hj => ?_⟩
    · rcases Nat.lt_or_ge g w.heap.size with h | h
      · exact h
      · rw [Array.getElem?_eq_none h] at hh; cases hh
    · subst ht
      simp only [World.cell?, hh, Nat.zero_add]
      simp
/-- an owned row's value is a slice of that length -/
theorem own_slice {w : World} {base n : Nat} {e : TypeId} {sz : Nat} {v : Value} {xs : List Value} (h : w.ownsRow base e sz v n xs) : ∃ A c, v = .slice A n c ∧ n ≤ c ∧ c ≤ maxLen := by
  rcases h.2 with ⟨h3, rfl⟩ | ⟨g, cap, cur, h3, hg, hh, hn, hc, hs, ht⟩
  · exact ⟨none, 0, h3, Nat.le_refl _, by unfold maxLen; omega⟩
  · exact ⟨_, cap, h3, hn, hc⟩
theorem own_below {w w' : World} {base n B : Nat} {e : TypeId} {sz : Nat} {v : Value} {xs : List Value} (h : w.ownsRow base e sz v n xs) (hb : Below B w w') (hg : ∀ g, v.ownBlock = some g → g < B) : w'.ownsRow base e sz v n xs := by
  refine ⟨h.1, ?_⟩
  rcases h.2 with h3 | ⟨g, cap, cur, rfl, hg', hh, r⟩
  · exact .inl h3
  · exact .inr ⟨g, cap, cur, rfl, hg', (hb.block g (hg g rfl)).trans hh, r⟩
theorem own_lt {w : World} {base n : Nat} {e : TypeId} {sz : Nat} {v : Value} {xs : List Value} (h : w.ownsRow base e sz v n xs) : ∀ g, v.ownBlock = some g → g < w.heap.size := by
  intro g hg
  rcases h.2 with ⟨rfl, _⟩ | ⟨g', cap, cur, rfl, hg', hh, r⟩
  · simp [Value.ownBlock] at hg
  · simp [Value.ownBlock] at hg
    subst hg
    rcases Nat.lt_or_ge g' w.heap.size with h | h
    · exact h
    · rw [Array.getElem?_eq_none h] at hh; cases hh
theorem own_base {w : World} {base base' n : Nat} {e : TypeId} {sz : Nat} {v : Value} {xs : List Value} (h : w.ownsRow base e sz v n xs) (hb : base' ≤ base) : w.ownsRow base' e sz v n xs := by
  refine ⟨h.1, ?_⟩
  rcases h.2 with h3 | ⟨g, cap, cur, rfl, hg', r⟩
  · exact .inl h3
  · exact .inr ⟨g, cap, cur, rfl, by omega, r⟩
theorem zeroCells_size1 (z : Value) (n : Nat) : (Builtin.zeroCells #[z] n).size = n := by simp [Builtin.zeroCells]
theorem ins_list {α : Type} (P Q Y Z : List α) (s : α) (hY : 0 < Y.length) (i m : Nat) (hi : i = P.length) (hm : m = P.length + Q.length + 1) :
    ((((P ++ Y).take (i + 1) ++ Q ++ Z).take i ++ [s] ++ ((P ++ Y).take (i + 1) ++ Q ++ Z).drop (i + 1)).take m) = P ++ s :: Q := by
  subst hi hm
  have e1 : (P ++ Y).take (P.length + 1) = P ++ Y.take 1 := by
    rw [List.take_append, List.take_of_length_le (by omega), show P.length + 1 - P.length = 1 by omega]
  obtain ⟨y, Y, rfl⟩ := List.exists_cons_of_length_pos hY
  rw [e1, List.take_succ_cons, List.take_zero]
  have e2 : (P ++ [y] ++ Q ++ Z).take P.length = P := by
    rw [List.append_assoc, List.append_assoc, List.take_left']
    rfl
  have e3 : (P ++ [y] ++ Q ++ Z).drop (P.length + 1) = Q ++ Z := by
    rw [List.append_assoc, List.drop_left']
    simp
  rw [e2, e3, ← List.append_assoc, List.take_left']
  · simp
  · simp; omega
theorem rd_new (w : World) (arr : Array Value) (e : TypeId) (L : List Value) (h : arr.toList = L) : Rd (w.alloc (.cells arr e)) (w.heap.size + 1) (some ⟨w.heap.size, 0, none⟩) L := by
  subst h
  refine .inr ⟨w.heap.size, 0, rfl, by omega, fun j hj => ?_⟩
  simp only [World.cell?, heap_alloc_new, Nat.zero_add]
  simp
theorem own_len {w : World} {base n c : Nat} {e : TypeId} {sz : Nat} {A : Option Addr} {xs : List Value} (h : w.ownsRow base e sz (.slice A n c) n xs) : n ≤ c := by
  obtain ⟨A', c', h1, h2, h3⟩ := own_slice h
  simp only [Value.slice.injEq] at h1
  omega
theorem own_cap {w : World} {base n c : Nat} {e : TypeId} {sz : Nat} {A : Option Addr} {xs : List Value} (h : w.ownsRow base e sz (.slice A n c) n xs) : c ≤ maxLen := by
  obtain ⟨A', c', h1, h2, h3⟩ := own_slice h
  simp only [Value.slice.injEq] at h1
  omega
end Go.Proofs.YtmaefhnlipcmoaaDoor
