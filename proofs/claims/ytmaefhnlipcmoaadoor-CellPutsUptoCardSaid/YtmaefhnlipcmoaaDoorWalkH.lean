/- cell.behind's closure at a cell in which nothing stands, and where none may: what it answers, what it leaves: what stands ahead. Conditions: lengths within the model's; Go's two tables of utf8. -/
import Derived.Test.YtmaefhnlipcmoaaDoorWst
import Derived.Laws.EntriesVeiled
namespace Go.Proofs.YtmaefhnlipcmoaaDoor
open Go.RowKit
variable {w0 w w' : World} {A : Option Addr} {cap : Nat} {xs : List Cel} {bv ba bw be bE : Nat} {E : List Int}
theorem new3 (w w1 : World) (a b c : Value) (t : TypeId) (hb : Below (w.alloc (.cells #[a, b, c] t)).heap.size (w.alloc (.cells #[a, b, c] t)) w1) :
    w1.cell? ⟨w.heap.size, 0, none⟩ = some a ∧ w1.cell? ⟨w.heap.size, 1, none⟩ = some b ∧ w1.cell? ⟨w.heap.size, 2, none⟩ = some c := by
  have h : ∀ o, w1.cell? ⟨w.heap.size, o, none⟩ = (w.alloc (.cells #[a, b, c] t)).cell? ⟨w.heap.size, o, none⟩ := fun o => hb.cell (by simp)
  rw [h, h, h]
  refine ⟨?_, ?_, ?_⟩ <;> (simp only [World.cell?, heap_alloc_new]; rfl)
def two (w : World) (k : Int) (nm tx : ByteArray) (num many : Int) (f g n : Value) : World := (w.alloc (.cells #[.int .u8 k, .string nm, .string tx, .int .i64 num, .int .i64 many] 45)).alloc (.cells #[f, g, n] 77)
/-- the two new blocks -/
structure Two (w W : World) (k : Int) (nm tx : ByteArray) (num many : Int) (f g n : Value) : Prop where
  below : Below w.heap.size w W
  size : w.heap.size + 1 < W.heap.size
  z0 : W.cell? ⟨w.heap.size, 0, none⟩ = some (.int .u8 k)
  z1 : W.cell? ⟨w.heap.size, 1, none⟩ = some (.string nm)
  z2 : W.cell? ⟨w.heap.size, 2, none⟩ = some (.string tx)
  z3 : W.cell? ⟨w.heap.size, 3, none⟩ = some (.int .i64 num)
  z4 : W.cell? ⟨w.heap.size, 4, none⟩ = some (.int .i64 many)
  y0 : W.cell? ⟨w.heap.size + 1, 0, none⟩ = some f
  y1 : W.cell? ⟨w.heap.size + 1, 1, none⟩ = some g
  y2 : W.cell? ⟨w.heap.size + 1, 2, none⟩ = some n
theorem Two.new (w : World) (k : Int) (nm tx : ByteArray) (num many : Int) (f g n : Value) : Two w (two w k nm tx num many f g n) k nm tx num many f g n := by
  unfold two
  have hs : (w.alloc (.cells #[.int .u8 k, .string nm, .string tx, .int .i64 num, .int .i64 many] 45)).heap.size = w.heap.size + 1 := by simp
  obtain ⟨z0, z1, z2, z3, z4⟩ := new5 w ((w.alloc (.cells #[.int .u8 k, .string nm, .string tx, .int .i64 num, .int .i64 many] 45)).alloc (.cells #[f, g, n] 77)) (.int .u8 k) (.string nm) (.string tx) (.int .i64 num) (.int .i64 many) 45 ((Below.refl _ _).alloc (Nat.le_refl _) _)
  obtain ⟨y0, y1, y2⟩ := new3 (w.alloc (.cells #[.int .u8 k, .string nm, .string tx, .int .i64 num, .int .i64 many] 45)) ((w.alloc (.cells #[.int .u8 k, .string nm, .string tx, .int .i64 num, .int .i64 many] 45)).alloc (.cells #[f, g, n] 77)) f g n 77 (Below.refl _ _)
  rw [hs] at y0 y1 y2
  exact ⟨((Below.refl _ _).alloc (Nat.le_refl _) _).alloc (by simp) _, by simp, z0, z1, z2, z3, z4, y0, y1, y2⟩
theorem Two.grow {W W' : World} {k : Int} {nm tx : ByteArray} {num many : Int} {f g n : Value} (h : Two w W k nm tx num many f g n) (hb : Below W.heap.size W W') : Two w W' k nm tx num many f g n := by
  have hs := h.size
  have c0 : ∀ o, W'.cell? ⟨w.heap.size, o, none⟩ = W.cell? ⟨w.heap.size, o, none⟩ := fun o => hb.cell (by show w.heap.size < _; omega)
  have c1 : ∀ o, W'.cell? ⟨w.heap.size + 1, o, none⟩ = W.cell? ⟨w.heap.size + 1, o, none⟩ := fun o => hb.cell (by show w.heap.size + 1 < _; omega)
  exact ⟨h.below.trans (hb.mono h.below.size), by have := hb.size; omega, (c0 _).trans h.z0, (c0 _).trans h.z1, (c0 _).trans h.z2, (c0 _).trans h.z3, (c0 _).trans h.z4, (c1 _).trans h.y0, (c1 _).trans h.y1, (c1 _).trans h.y2⟩
end Go.Proofs.YtmaefhnlipcmoaaDoor
