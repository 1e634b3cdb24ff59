/- Types in variables that the call has made. Conditions: none. -/
import Derived.Test.YtgoecnhkmfnenaaWraps
import Derived.Test.YtgoecnhkmfnenaaApp
namespace Go.Proofs.Ytgoecnhkmfnenaa
open Go.RowKit
/-- a type in a variable -/
def BoxR (w : World) (g : Nat) (nm : ByteArray) (A : Option Addr) (n c : Nat) : Prop :=
  g < w.heap.size ∧ w.cell? ⟨g, 0, none⟩ = some (.string nm) ∧ w.cell? ⟨g, 1, none⟩ = some (.slice A n c) ∧ w.frozen? ⟨g, 0, none⟩ = false ∧ w.frozen? ⟨g, 1, none⟩ = false
theorem BoxR.keep {w w1 : World} {g : Nat} {nm : ByteArray} {A : Option Addr} {n c : Nat} (hb : Below w.heap.size w w1) (h : BoxR w g nm A n c) : BoxR w1 g nm A n c := by
  obtain ⟨h1, h2, h3, h4, h5⟩ := h
  have := hb.size
  exact ⟨by omega, (hb.cell (p := ⟨g, 0, none⟩) h1).trans h2, (hb.cell (p := ⟨g, 1, none⟩) h1).trans h3, (hb.frozen (p := ⟨g, 0, none⟩) h1).trans h4, (hb.frozen (p := ⟨g, 1, none⟩) h1).trans h5⟩
theorem heap2_old (w : World) (o o2 : Obj) : ((w.alloc o).alloc o2).heap[w.heap.size]? = some o := (heap_alloc_old _ _ (by simp)).trans (heap_alloc_new _ _)
theorem heap2_new (w : World) (o o2 : Obj) : ((w.alloc o).alloc o2).heap[w.heap.size + 1]? = some o2 := by
  have : w.heap.size + 1 = (w.alloc o).heap.size := by simp
  rw [this]
  exact heap_alloc_new _ _
theorem own2_lit (w : World) (o : Obj) {e : TypeId} (cs : Array Value) (n : Nat) (hm : n ≤ maxLen) (hs : cs.size = n * 1) :
    ((w.alloc o).alloc (.cells cs e)).drew.ownsRow w.heap.size e 1 (.slice (some ⟨w.heap.size + 1, 0, none⟩) n n) n cs.toList := by
  have : w.heap.size + 1 = (w.alloc o).heap.size := by simp
  rw [this]
  exact World.ownsRow_lit (w.alloc o) cs n (by simp) hm hs
theorem set2_far {w : World} {g h o : Nat} {x y v : Value} (hne : h ≠ g) (hc : w.cell? ⟨h, o, none⟩ = some v) : ((w.setCell ⟨g, 0, none⟩ x).setCell ⟨g, 1, none⟩ y).cell? ⟨h, o, none⟩ = some v := by
  have n0 : (⟨h, o, none⟩ : Addr) ≠ ⟨g, 0, none⟩ := fun e => hne (congrArg Addr.block e)
  have n1 : (⟨h, o, none⟩ : Addr) ≠ ⟨g, 1, none⟩ := fun e => hne (congrArg Addr.block e)
  first
    | exact (World.cell?_setCell_other _ _ _ _ n1).trans ((World.cell?_setCell_other _ _ _ _ n0).trans hc)
    | exact (World.cell?_setCell_other _ _ _ _ n1.symm).trans ((World.cell?_setCell_other _ _ _ _ n0.symm).trans hc)
theorem BoxR.set_far {w : World} {g h : Nat} {nm : ByteArray} {A : Option Addr} {n c : Nat} {v : Value} {o : Nat} (b : BoxR w h nm A n c) (hne : g ≠ h) : BoxR (w.setCell ⟨g, o, none⟩ v) h nm A n c := by
  obtain ⟨h1, h2, h3, h4, h5⟩ := b
  refine ⟨by simpa using h1, ?_, ?_, ?_, ?_⟩
  · rw [World.cell?_setCell_far _ _ _ _ hne]; exact h2
  · rw [World.cell?_setCell_far _ _ _ _ hne]; exact h3
  · rw [World.frozen?_setCell]; exact h4
  · rw [World.frozen?_setCell]; exact h5
theorem BoxR.set1 {w : World} {g : Nat} {nm : ByteArray} {A A' : Option Addr} {n c n' c' : Nat} (b : BoxR w g nm A n c) : BoxR (w.setCell ⟨g, 1, none⟩ (.slice A' n' c')) g nm A' n' c' := by
  obtain ⟨h1, h2, h3, h4, h5⟩ := b
  refine ⟨by simpa using h1, ?_, ?_, ?_, ?_⟩
  · rw [World.cell?_setCell_other _ _ _ _ (by simp)]; exact h2
  · exact World.cell?_setCell_same _ _ _ h3
  · rw [World.frozen?_setCell]; exact h4
  · rw [World.frozen?_setCell]; exact h5
/-- a new variable that holds a type -/
def NewR (w2 : World) (nm : ByteArray) (ws : List UInt8) (s : Value) (wx : World) : Prop :=
  ∃ g A c, s = .pointer (some ⟨g, 0, none⟩) ∧ w2.heap.size ≤ g ∧ BoxR wx g nm A ws.length c ∧ Rd wx wx.heap.size A (bv ws) ∧ ws.length ≤ c ∧ c ≤ maxLen ∧ Below w2.heap.size w2 wx
theorem bv_cons (x : UInt8) (fa : List UInt8) : [Value.int .u8 x.toNat] ++ bv fa = bv (x :: fa) := by simp [bv]
theorem newR_alloc {w2 w3 : World} {nm : ByteArray} {x : UInt8} {fa : List UInt8} {A3 : Option Addr} {c3 : Nat} (hb : Below w2.heap.size w2 w3)
    (hown : w3.ownsRow w2.heap.size 5 1 (.slice A3 (1 + fa.length) c3) (1 + fa.length) ([.int .u8 x.toNat] ++ bv fa)) (h1 : 1 + fa.length ≤ c3) (h2 : c3 ≤ maxLen) :
    NewR w2 nm (x :: fa) (.pointer (some ⟨w3.heap.size, 0, none⟩)) (w3.alloc (.cells #[.string nm, .slice A3 (1 + fa.length) c3] 24)) := by
  rw [bv_cons] at hown
  have hs := hb.size
  have hr := (Rd.of_own hown).thru ((Below.refl w3.heap.size w3).alloc (Nat.le_refl _) (.cells #[.string nm, .slice A3 (1 + fa.length) c3] 24)) (Nat.le_refl _)
  refine ⟨w3.heap.size, A3, c3, rfl, hs, ⟨by simp, ?_, ?_, ?_, ?_⟩, hr.mono (by simp), by simp; omega, h2, hb.alloc hs _⟩
  · simp [World.cell?_alloc_new]
  · simp [World.cell?_alloc_new]
    omega
  · exact World.frozen?_alloc_at _ _ _ _ rfl
  · exact World.frozen?_alloc_at _ _ _ _ rfl
theorem own_set2 {w3 : World} {base n g : Nat} {v x y : Value} {o : Array Value} {xs : List Value} (h : w3.ownsRow base 5 1 v n xs) (hq : w3.heap[g]? = some (.cells o 24)) :
    ((w3.setCell ⟨g, 0, none⟩ x).setCell ⟨g, 1, none⟩ y).ownsRow base 5 1 v n xs := by
  refine ⟨h.1, ?_⟩
  rcases h.2 with h3 | ⟨g', cap, cur, rfl, hg', hh, r⟩
  · exact .inl h3
  · refine .inr ⟨g', cap, cur, rfl, hg', ?_, r⟩
    have hne : g ≠ g' := by
      rintro rfl
      rw [hq] at hh
      cases hh
    simp [World.setCell, Array.getElem?_modify, hne, hh]
theorem newR_store {w2 w3 : World} {nm : ByteArray} {x : UInt8} {fa : List UInt8} {A3 : Option Addr} {c3 g : Nat} (hb : Below w2.heap.size w2 w3)
    (hown : w3.ownsRow w2.heap.size 5 1 (.slice A3 (1 + fa.length) c3) (1 + fa.length) ([.int .u8 x.toNat] ++ bv fa)) (h1 : 1 + fa.length ≤ c3) (h2 : c3 ≤ maxLen)
    (hq : w3.heap[g]? = some (.cells #[.string ⟨#[]⟩, .slice none 0 0] 24)) (hg : w2.heap.size ≤ g) :
    NewR w2 nm (x :: fa) (.pointer (some ⟨g, 0, none⟩)) ((w3.setCell ⟨g, 0, none⟩ (.string nm)).setCell ⟨g, 1, none⟩ (.slice A3 (1 + fa.length) c3)) := by
  rw [bv_cons] at hown
  have hs := hb.size
  have hgl : g < w3.heap.size := (Array.getElem?_eq_some_iff.1 hq).1
  have hr := Rd.of_own (own_set2 (x := .string nm) (y := .slice A3 (1 + fa.length) c3) hown hq)
  refine ⟨g, A3, c3, rfl, hg, ⟨by simpa using hgl, ?_, ?_, ?_, ?_⟩, hr, by simp; omega, h2, (hb.setCell hg _).setCell hg _⟩
  · simp [World.cell?, World.setCell, Array.getElem?_modify, hq]
  · simp [World.cell?, World.setCell, Array.getElem?_modify, hq]
    omega
  · simp [World.frozen?, World.setCell, Array.getElem?_modify, hq]
  · simp [World.frozen?, World.setCell, Array.getElem?_modify, hq]
end Go.Proofs.Ytgoecnhkmfnenaa
