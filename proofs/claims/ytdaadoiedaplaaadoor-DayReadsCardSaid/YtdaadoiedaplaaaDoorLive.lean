/- The laws' own helpers: reads, none, alive. Conditions: the table of powers of ten as it is laid. -/
import Derived.Test.YtdaadoiedaplaaaDoorParse
namespace Go.Proofs.YtdaadoiedaplaaaDoor
open Go.RowKit Go.Lib
theorem bt {B : Nat} {a w w' : World} (h : Below B a w) (hB : B ≤ w.heap.size) (hb : Below w.heap.size w w') : Below B a w' := h.grown (gb_below hb none) hB (fun k hk => by cases hk)
theorem bAl (w : World) (o : Obj) : Below w.heap.size w (w.alloc o) := (Below.refl _ _).alloc (Nat.le_refl _) _
theorem day_cells (w w2 : World) (a n : Int) (hb : Below (w.alloc (.cells #[.int .i64 a, .int .i64 n] 23)).heap.size (w.alloc (.cells #[.int .i64 a, .int .i64 n] 23)) w2) :
    w2.cell? ⟨w.heap.size, 0, none⟩ = some (.int .i64 a) ∧ w2.cell? ⟨w.heap.size, 1, none⟩ = some (.int .i64 n) := by
  have hbl := hb.block w.heap.size (by simp)
  refine ⟨(World.cell?_of_block (a := ⟨w.heap.size, 0, none⟩) hbl).trans ?_, (World.cell?_of_block (a := ⟨w.heap.size, 1, none⟩) hbl).trans ?_⟩
  · rw [World.cell?_alloc_at _ _ _ _ rfl]; rfl
  · rw [World.cell?_alloc_at _ _ _ _ rfl]; rfl
theorem reads_any (s text : ByteArray) (a n : Int) (w : World) (hP : Pow w) (hs : s.size ≤ maxLen) (h : parseP s.data.toList = some (a, n)) (hok : okD a n = true) (ht : textL a n = text.data.toList) :
    Calls Tryd.prog 22 #[.string s, .int .i64 a, .int .i64 n, .string text] w fun e w' => e = .returned (.bool true) ∧ Below w.heap.size w w' := by
  have hp := fun W => parse_any s W hs
  have hv : ParseV s = .tuple #[.agg #[.int .i64 a, .int .i64 n], .int .i64 0] := by unfold ParseV; rw [h]; rfl
  rw [hv] at hp
  have hx := fun W h => text_any a n W h
  have hv2 : TextV a n = .tuple #[.string text, .int .i64 0] := by unfold TextV; rw [if_pos hok, ht]
  rw [hv2] at hx
  clear h hok ht hv hv2 hs
  go_enter Tryd.func22, Tryd.ntmps22
  go_wp2_with fail
  refine (hp _).mono ?_
  rintro e w1 ⟨rfl, hb1⟩
  have HP1 := Lib.hid ((hP.below hb1).below (bAl _ (.cells #[.int .i64 a, .int .i64 n] 23)))
  go_wp2_with fail
  refine (hx _ HP1.out).mono ?_
  rintro e w2 ⟨rfl, hb2⟩
  obtain ⟨c0, c1⟩ := day_cells _ _ _ _ hb2
  have HB := Lib.hid (bt (bt hb1 hb1.size (bAl _ _)) (by have := hb1.size; simp; omega) hb2)
  clear hb1 hb2
  go_wp2_with fail
  go_ret
  exact ⟨rfl, HB.out⟩
theorem none_any (s : ByteArray) (w : World) (hs : s.size ≤ maxLen) (h : parseP s.data.toList = none) :
    Calls Tryd.prog 20 #[.string s] w fun e w' => e = .returned (.bool true) ∧ Below w.heap.size w w' := by
  have hp := fun W => parse_any s W hs
  have hv : ParseV s = .tuple #[.agg #[.int .i64 0, .int .i64 0], .int .i64 120] := by unfold ParseV; rw [h]; rfl
  rw [hv] at hp
  clear h hv hs
  go_enter Tryd.func20, Tryd.ntmps20
  go_wp2_with fail
  refine (hp _).mono ?_
  rintro e w1 ⟨rfl, hb1⟩
  go_wp2_with fail
  go_ret
  exact ⟨ret_bool (by simp), bt hb1 hb1.size (bAl _ _)⟩
theorem alive_any (w : World) (hP : Pow w) : Calls Tryd.prog 21 #[] w fun e w' => e = .returned (.bool true) ∧ Below w.heap.size w w' := by
  go_enter Tryd.func21, Tryd.ntmps21
  go_wp2_with fail
  refine (reads_any ⟨#[48, 48, 48, 48, 45, 48, 49, 45, 48, 49, 84, 48, 48, 58, 48, 48, 58, 48, 48, 90]⟩ ⟨#[48, 48, 48, 48, 45, 48, 49, 45, 48, 49, 84, 48, 48, 58, 48, 48, 58, 48, 48, 90]⟩ 0 0 _ hP (by decide) (by kernel_rfl) (by kernel_rfl) (by kernel_rfl)).mono ?_
  rintro e w1 ⟨rfl, hb1⟩
  have HP1 := Lib.hid (hP.below hb1)
  go_wp2_with fail
  refine (reads_any ⟨#[49, 57, 55, 48, 45, 48, 49, 45, 48, 49, 116, 48, 48, 58, 48, 48, 58, 48, 48, 46, 53, 48, 122]⟩ ⟨#[49, 57, 55, 48, 45, 48, 49, 45, 48, 49, 84, 48, 48, 58, 48, 48, 58, 48, 48, 46, 53, 90]⟩ 62167219200 500000000 _ HP1.out (by decide) (by kernel_rfl) (by kernel_rfl) (by kernel_rfl)).mono ?_
  rintro e w2 ⟨rfl, hb2⟩
  go_wp2_with fail
  go_ret
  exact ⟨rfl, bt hb1 hb1.size hb2⟩
end Go.Proofs.YtdaadoiedaplaaaDoor
