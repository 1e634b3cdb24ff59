/- alive: it answers true. Conditions: Go's two tables of utf8. -/
import Derived.Test.YtcgioepbooafcaaGreatDoorMSmall
namespace Go.Proofs.YtcgioepbooafcaaGreatDoor
open Go.RowKit
theorem TwinPost.recIn {base : Nat} {r : RecC} {w : World} {A : Option Addr} {c : Nat} (h : w.ownsRow base 47 5 (.slice A r.data.length c) r.data.length (cv r.data)) : RecIn w w.heap.size r.data A c := by
  obtain ⟨A', c', e, h1, h2⟩ := own_slice h
  simp only [Value.slice.injEq] at e
  obtain ⟨rfl, _, rfl⟩ := e
  exact ⟨rd_ofK2 h, h1, h2⟩
theorem rB_W : RecW (rB 2) := recW_small (by kernel_rfl)
theorem rC_W : RecW (rC 3) := recW_small (by kernel_rfl)
theorem at_world {P : World → Prop} {B : Nat} {wb : World} (W : World) (h : Below B wb W) (k : ∀ W, Below B wb W → P W) : P W := k W h
theorem four_new {w w' : World} {v0 v1 v2 v3 : Value} {T : TypeId} (q : Below (w.alloc (.cells #[v0, v1, v2, v3] T)).heap.size (w.alloc (.cells #[v0, v1, v2, v3] T)) w') : Four w' w.heap.size v0 v1 v2 v3 := (Four.new w v0 v1 v2 v3 T).below q (by simp)
theorem four_newD {w w' : World} {v0 v1 v2 v3 : Value} {T : TypeId} (q : Below (w.alloc (.cells #[v0, v1, v2, v3] T)).drew.heap.size (w.alloc (.cells #[v0, v1, v2, v3] T)).drew w') : Four w' w.heap.size v0 v1 v2 v3 := by
  have f := Four.new w v0 v1 v2 v3 T
  exact Four.below (W := (w.alloc (.cells #[v0, v1, v2, v3] T)).drew) ⟨f.c0, f.c1, f.c2, f.c3, f.f⟩ q (show w.heap.size < (w.alloc (.cells #[v0, v1, v2, v3] T)).heap.size by simp)
def ZeroPost (E : Int) (w : World) (e : Ending) (w' : World) : Prop := ∃ Au cu Ar cr, e = .returned (.tuple #[.agg #[.string ⟨#[]⟩, .int .i64 0, .slice Au 0 cu, .slice Ar 0 cr], .int .i64 E]) ∧ Below w.heap.size w w'
theorem ResPost.zero {E : Int} {w : World} {e : Ending} {w' : World} (h : ResPost zeroT E w e w') : ZeroPost E w e w' := by
  obtain ⟨Au, cu, Ar, cr, e1, _, b⟩ := h
  exact ⟨Au, cu, Ar, cr, e1, b⟩
def TwoPost (w : World) (e : Ending) (w' : World) : Prop := ∃ Au cu g cr, e = .returned (.tuple #[.agg #[.string ⟨#[84]⟩, .int .i64 2, .slice Au 1 cu, .slice (some ⟨g, 0, none⟩) 2 cr], .int .i64 0]) ∧ NewTab w' w.heap.size twoT Au cu g cr ∧ Below w.heap.size w w'
theorem ResPost.two {w : World} {e : Ending} {w' : World} (h : ResPost twoT 0 w e w') : TwoPost w e w' := by
  obtain ⟨Au, cu, Ar, cr, e1, f, b⟩ := h
  rcases f with ⟨f, _⟩ | ⟨g, rfl, f⟩
  · cases f
  · exact ⟨Au, cu, g, cr, e1, f, b⟩
end Go.Proofs.YtcgioepbooafcaaGreatDoor
