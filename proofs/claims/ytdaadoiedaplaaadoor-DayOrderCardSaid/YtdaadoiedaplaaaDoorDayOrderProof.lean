/- DayOrder: the order is that of texts without fractions. Conditions: none. -/
import Derived.Test.YtdaadoiedaplaaaDoorRows
import Derived.Test.YtdaadoiedaplaaaDoorOrdPlain
import Derived.Test.YtdaadoiedaplaaaDoorTie
import Derived.Test.YtdaadoiedaplaaaDoorCards
import Derived.ProofKit
import Derived.OpenShut
import Derived.LaidMore
import Derived.Lay
import Derived.Lib.LaidU8
import Derived.Lib.LaidTab
import Derived.SevenTiedAt
import Derived.Stop.Joined
import Derived.PinnedBridge
namespace Go.Proofs.YtdaadoiedaplaaaDoor.dayOrder
open Go.RowKit Go.Lib
theorem bcell {w w' : World} (hb : Below w.heap.size w w') {a : Addr} {v : Value} (h : w.cell? a = some v) : w'.cell? a = some v :=
  (World.cell?_of_block (hb.block a.block (World.block_lt_of_cell? _ _ h))).trans h
theorem bfrozen {w w' : World} (hb : Below w.heap.size w w') {a : Addr} {v : Value} (h : w.cell? a = some v) {f : Bool} (hf : w.frozen? a = f) : w'.frozen? a = f :=
  (World.frozen?_of_block (hb.block a.block (World.block_lt_of_cell? _ _ h))).trans hf
structure Two (W : World) (g : Nat) (a n b m : Int) : Prop where
  c0 : W.cell? ⟨g, 0, none⟩ = some (.int .i64 a)
  c1 : W.cell? ⟨g, 1, none⟩ = some (.int .i64 n)
  c2 : W.cell? ⟨g + 1, 0, none⟩ = some (.int .i64 b)
  c3 : W.cell? ⟨g + 1, 1, none⟩ = some (.int .i64 m)
  f1 : W.frozen? ⟨g, 1, none⟩ = false
  f3 : W.frozen? ⟨g + 1, 1, none⟩ = false
theorem Two.keep {W W' : World} {g : Nat} {a n b m : Int} (h : Two W g a n b m) (hb : Below W.heap.size W W') : Two W' g a n b m :=
  ⟨bcell hb h.c0, bcell hb h.c1, bcell hb h.c2, bcell hb h.c3, bfrozen hb h.c1 h.f1, bfrozen hb h.c3 h.f3⟩
theorem Two.start (w : World) (a n b m : Int) : Two ((w.alloc (.cells #[.int .i64 a, .int .i64 n] 23)).alloc (.cells #[.int .i64 b, .int .i64 m] 23)) w.heap.size a n b m := by
  have k0 : (w.alloc (.cells #[.int .i64 a, .int .i64 n] 23)).cell? ⟨w.heap.size, 0, none⟩ = some (.int .i64 a) := by rw [World.cell?_alloc_at _ _ _ _ rfl]; rfl
  have k1 : (w.alloc (.cells #[.int .i64 a, .int .i64 n] 23)).cell? ⟨w.heap.size, 1, none⟩ = some (.int .i64 n) := by rw [World.cell?_alloc_at _ _ _ _ rfl]; rfl
  have k2 : (w.alloc (.cells #[.int .i64 a, .int .i64 n] 23)).frozen? ⟨w.heap.size, 1, none⟩ = false := World.frozen?_alloc_at _ _ _ _ rfl
  refine ⟨bcell (bAl _ _) k0, bcell (bAl _ _) k1, ?_, ?_, bfrozen (bAl _ _) k1 k2, World.frozen?_alloc_at _ _ _ _ (by simp)⟩
  · rw [World.cell?_alloc_at _ _ _ _ (by simp)]; rfl
  · rw [World.cell?_alloc_at _ _ _ _ (by simp)]; rfl
theorem Two.set {W : World} {g : Nat} {a n b m : Int} (h : Two W g a n b m) : Two ((W.setCell ⟨g, 1, none⟩ (.int .i64 0)).setCell ⟨g + 1, 1, none⟩ (.int .i64 0)) g a 0 b 0 := by
  refine ⟨?_, ?_, ?_, ?_, ?_, ?_⟩
  · rw [World.cell?_setCell_far _ _ _ _ (show g + 1 ≠ g by omega), World.cell?_setCell_other _ _ _ _ (by simp)]; exact h.c0
  · rw [World.cell?_setCell_far _ _ _ _ (show g + 1 ≠ g by omega)]; exact World.cell?_setCell_same _ _ _ h.c1
  · rw [World.cell?_setCell_other _ _ _ _ (by simp), World.cell?_setCell_far _ _ _ _ (show g ≠ g + 1 by omega)]; exact h.c2
  · exact World.cell?_setCell_same _ _ _ ((World.cell?_setCell_far _ _ _ _ (show g ≠ g + 1 by omega)).trans h.c3)
  · rw [World.frozen?_setCell, World.frozen?_setCell]; exact h.f1
  · rw [World.frozen?_setCell, World.frozen?_setCell]; exact h.f3
set_option maxHeartbeats 4000000 in
set_option maxRecDepth 100000 in
theorem walk_Eea (a n : Int) (eb c3 : Int) (ta tb : ByteArray) (w : World) (hP : Pow w)  
    (h1 : ∀ W, Calls Tryd.prog 18 #[.agg #[.int .i64 a, .int .i64 n], .agg #[.int .i64 a, .int .i64 n]] W fun e w' => e = .returned (.int .i64 0) ∧ Below W.heap.size W w')
    (h2 : ∀ W, Calls Tryd.prog 18 #[.agg #[.int .i64 a, .int .i64 n], .agg #[.int .i64 a, .int .i64 n]] W fun e w' => e = .returned (.int .i64 0) ∧ Below W.heap.size W w')
    (h3 : ∀ W, Calls Tryd.prog 18 #[.agg #[.int .i64 a, .int .i64 0], .agg #[.int .i64 a, .int .i64 0]] W fun e w' => e = .returned (.int .i64 c3) ∧ Below W.heap.size W w')
    (x1 : ∀ W, Pow W → Calls Tryd.prog 12 #[.agg #[.int .i64 a, .int .i64 0]] W fun e w' => e = .returned (.tuple #[.string ta, .int .i64 120]) ∧ Below W.heap.size W w')
    (x2 : ∀ W, Pow W → Calls Tryd.prog 12 #[.agg #[.int .i64 a, .int .i64 0]] W fun e w' => e = .returned (.tuple #[.string tb, .int .i64 eb]) ∧ Below W.heap.size W w') :
    Calls Tryd.prog 9 #[.agg #[.int .i64 a, .int .i64 n], .agg #[.int .i64 a, .int .i64 n]] w fun e w' => e = .returned (.bool true) ∧ Below w.heap.size w w' := by
  have HPw := Lib.hid hP
  have H1 := Lib.hid h1
  have H2 := Lib.hid h2
  have H3 := Lib.hid h3
  have X1 := Lib.hid x1
  have X2 := Lib.hid x2
  clear h1 h2 h3 x1 x2
  have hT := Two.start w a n a n
  have hB : Below w.heap.size w ((w.alloc (.cells #[.int .i64 a, .int .i64 n] 23)).alloc (.cells #[.int .i64 a, .int .i64 n] 23)) := bt (bAl w _) (bAl w _).size (bAl _ _)
  have hP0 := (hP.below (bAl w (.cells #[.int .i64 a, .int .i64 n] 23))).below (bAl _ (.cells #[.int .i64 a, .int .i64 n] 23))
  have HT := Lib.hid hT
  have HB := Lib.hid hB
  have HP := Lib.hid hP0
  clear hT hB hP0 hP
  go_enter Tryd.func9, Tryd.ntmps9
  go_wp2_with fail
  refine (alive_any _ HP.out).mono ?_
  rintro e w1 ⟨rfl, hb⟩
  replace HT := Lib.hid (HT.out.keep hb)
  replace HB := Lib.hid (bt HB.out HB.out.size hb)
  replace HP := Lib.hid (HP.out.below hb)
  clear hb
  have c0 := HT.out.c0
  have c1 := HT.out.c1
  have c2 := HT.out.c2
  have c3 := HT.out.c3
  have f1 := HT.out.f1
  have f3 := HT.out.f3
  go_wp2_with fail
  clear c0 c1 c2 c3 f1 f3
  refine (H1.out _).mono ?_
  rintro e w2 ⟨rfl, hb⟩
  replace HT := Lib.hid (HT.out.keep hb)
  replace HB := Lib.hid (bt HB.out HB.out.size hb)
  replace HP := Lib.hid (HP.out.below hb)
  clear hb
  have c0 := HT.out.c0
  have c1 := HT.out.c1
  have c2 := HT.out.c2
  have c3 := HT.out.c3
  have f1 := HT.out.f1
  have f3 := HT.out.f3
  go_wp2_with fail
  clear c0 c1 c2 c3 f1 f3
  refine (H2.out _).mono ?_
  rintro e w3 ⟨rfl, hb⟩
  replace HT := Lib.hid (HT.out.keep hb)
  replace HB := Lib.hid (bt HB.out HB.out.size hb)
  replace HP := Lib.hid (HP.out.below hb)
  clear hb
  have c0 := HT.out.c0
  have c1 := HT.out.c1
  have c2 := HT.out.c2
  have c3 := HT.out.c3
  have f1 := HT.out.f1
  have f3 := HT.out.f3
  go_wp2_with fail
  replace HT := Lib.hid HT.out.set
  have hB5 : Below w.heap.size w ((w3.setCell ⟨w.heap.size, 1, none⟩ (.int .i64 0)).setCell ⟨w.heap.size + 1, 1, none⟩ (.int .i64 0)) := (HB.out.setCell (by simp) _).setCell (by simp) _
  replace HB := Lib.hid hB5
  have hP5 : Pow ((w3.setCell ⟨w.heap.size, 1, none⟩ (.int .i64 0)).setCell ⟨w.heap.size + 1, 1, none⟩ (.int .i64 0)) := HPw.out.below HB.out
  replace HP := Lib.hid hP5
  clear hB5 hP5 c0 c1 c2 c3 f1 f3
  refine (X1.out _ HP.out).mono ?_
  rintro e w4 ⟨rfl, hb⟩
  replace HT := Lib.hid (HT.out.keep hb)
  replace HB := Lib.hid (bt HB.out HB.out.size hb)
  replace HP := Lib.hid (HP.out.below hb)
  clear hb
  have c0 := HT.out.c0
  have c1 := HT.out.c1
  have c2 := HT.out.c2
  have c3 := HT.out.c3
  have f1 := HT.out.f1
  have f3 := HT.out.f3
  go_wp2_with fail
  clear c0 c1 c2 c3 f1 f3
  refine (X2.out _ HP.out).mono ?_
  rintro e w5 ⟨rfl, hb⟩
  replace HT := Lib.hid (HT.out.keep hb)
  replace HB := Lib.hid (bt HB.out HB.out.size hb)
  replace HP := Lib.hid (HP.out.below hb)
  clear hb
  have c0 := HT.out.c0
  have c1 := HT.out.c1
  have c2 := HT.out.c2
  have c3 := HT.out.c3
  have f1 := HT.out.f1
  have f3 := HT.out.f3
  go_wp2_with fail
  clear c0 c1 c2 c3 f1 f3
  refine (H3.out _).mono ?_
  rintro e w6 ⟨rfl, hb⟩
  replace HB := Lib.hid (bt HB.out HB.out.size hb)
  clear hb
  go_wp2_with fail
  go_ret
  exact ⟨ret_bool (by simp), HB.out⟩
set_option maxHeartbeats 4000000 in
set_option maxRecDepth 100000 in
theorem walk_Eeq (a n : Int) (ta : ByteArray) (w : World) (hP : Pow w)  (hl : Op.bytesLess ta.toList ta.toList = false)
    (h1 : ∀ W, Calls Tryd.prog 18 #[.agg #[.int .i64 a, .int .i64 n], .agg #[.int .i64 a, .int .i64 n]] W fun e w' => e = .returned (.int .i64 0) ∧ Below W.heap.size W w')
    (h2 : ∀ W, Calls Tryd.prog 18 #[.agg #[.int .i64 a, .int .i64 n], .agg #[.int .i64 a, .int .i64 n]] W fun e w' => e = .returned (.int .i64 0) ∧ Below W.heap.size W w')
    (h3 : ∀ W, Calls Tryd.prog 18 #[.agg #[.int .i64 a, .int .i64 0], .agg #[.int .i64 a, .int .i64 0]] W fun e w' => e = .returned (.int .i64 0) ∧ Below W.heap.size W w')
    (x1 : ∀ W, Pow W → Calls Tryd.prog 12 #[.agg #[.int .i64 a, .int .i64 0]] W fun e w' => e = .returned (.tuple #[.string ta, .int .i64 0]) ∧ Below W.heap.size W w')
    (x2 : ∀ W, Pow W → Calls Tryd.prog 12 #[.agg #[.int .i64 a, .int .i64 0]] W fun e w' => e = .returned (.tuple #[.string ta, .int .i64 0]) ∧ Below W.heap.size W w') :
    Calls Tryd.prog 9 #[.agg #[.int .i64 a, .int .i64 n], .agg #[.int .i64 a, .int .i64 n]] w fun e w' => e = .returned (.bool true) ∧ Below w.heap.size w w' := by
  have HPw := Lib.hid hP
  have H1 := Lib.hid h1
  have H2 := Lib.hid h2
  have H3 := Lib.hid h3
  have X1 := Lib.hid x1
  have X2 := Lib.hid x2
  clear h1 h2 h3 x1 x2
  have hT := Two.start w a n a n
  have hB : Below w.heap.size w ((w.alloc (.cells #[.int .i64 a, .int .i64 n] 23)).alloc (.cells #[.int .i64 a, .int .i64 n] 23)) := bt (bAl w _) (bAl w _).size (bAl _ _)
  have hP0 := (hP.below (bAl w (.cells #[.int .i64 a, .int .i64 n] 23))).below (bAl _ (.cells #[.int .i64 a, .int .i64 n] 23))
  have HT := Lib.hid hT
  have HB := Lib.hid hB
  have HP := Lib.hid hP0
  clear hT hB hP0 hP
  go_enter Tryd.func9, Tryd.ntmps9
  go_wp2_with fail
  refine (alive_any _ HP.out).mono ?_
  rintro e w1 ⟨rfl, hb⟩
  replace HT := Lib.hid (HT.out.keep hb)
  replace HB := Lib.hid (bt HB.out HB.out.size hb)
  replace HP := Lib.hid (HP.out.below hb)
  clear hb
  have c0 := HT.out.c0
  have c1 := HT.out.c1
  have c2 := HT.out.c2
  have c3 := HT.out.c3
  have f1 := HT.out.f1
  have f3 := HT.out.f3
  go_wp2_with fail
  clear c0 c1 c2 c3 f1 f3
  refine (H1.out _).mono ?_
  rintro e w2 ⟨rfl, hb⟩
  replace HT := Lib.hid (HT.out.keep hb)
  replace HB := Lib.hid (bt HB.out HB.out.size hb)
  replace HP := Lib.hid (HP.out.below hb)
  clear hb
  have c0 := HT.out.c0
  have c1 := HT.out.c1
  have c2 := HT.out.c2
  have c3 := HT.out.c3
  have f1 := HT.out.f1
  have f3 := HT.out.f3
  go_wp2_with fail
  clear c0 c1 c2 c3 f1 f3
  refine (H2.out _).mono ?_
  rintro e w3 ⟨rfl, hb⟩
  replace HT := Lib.hid (HT.out.keep hb)
  replace HB := Lib.hid (bt HB.out HB.out.size hb)
  replace HP := Lib.hid (HP.out.below hb)
  clear hb
  have c0 := HT.out.c0
  have c1 := HT.out.c1
  have c2 := HT.out.c2
  have c3 := HT.out.c3
  have f1 := HT.out.f1
  have f3 := HT.out.f3
  go_wp2_with fail
  replace HT := Lib.hid HT.out.set
  have hB5 : Below w.heap.size w ((w3.setCell ⟨w.heap.size, 1, none⟩ (.int .i64 0)).setCell ⟨w.heap.size + 1, 1, none⟩ (.int .i64 0)) := (HB.out.setCell (by simp) _).setCell (by simp) _
  replace HB := Lib.hid hB5
  have hP5 : Pow ((w3.setCell ⟨w.heap.size, 1, none⟩ (.int .i64 0)).setCell ⟨w.heap.size + 1, 1, none⟩ (.int .i64 0)) := HPw.out.below HB.out
  replace HP := Lib.hid hP5
  clear hB5 hP5 c0 c1 c2 c3 f1 f3
  refine (X1.out _ HP.out).mono ?_
  rintro e w4 ⟨rfl, hb⟩
  replace HT := Lib.hid (HT.out.keep hb)
  replace HB := Lib.hid (bt HB.out HB.out.size hb)
  replace HP := Lib.hid (HP.out.below hb)
  clear hb
  have c0 := HT.out.c0
  have c1 := HT.out.c1
  have c2 := HT.out.c2
  have c3 := HT.out.c3
  have f1 := HT.out.f1
  have f3 := HT.out.f3
  go_wp2_with fail
  clear c0 c1 c2 c3 f1 f3
  refine (X2.out _ HP.out).mono ?_
  rintro e w5 ⟨rfl, hb⟩
  replace HT := Lib.hid (HT.out.keep hb)
  replace HB := Lib.hid (bt HB.out HB.out.size hb)
  replace HP := Lib.hid (HP.out.below hb)
  clear hb
  have c0 := HT.out.c0
  have c1 := HT.out.c1
  have c2 := HT.out.c2
  have c3 := HT.out.c3
  have f1 := HT.out.f1
  have f3 := HT.out.f3
  go_wp2_with fail
  clear c0 c1 c2 c3 f1 f3
  refine (H3.out _).mono ?_
  rintro e w6 ⟨rfl, hb⟩
  replace HB := Lib.hid (bt HB.out HB.out.size hb)
  clear hb
  go_wp2_with fail
  go_ret
  exact ⟨ret_bool (by simp), HB.out⟩
set_option maxHeartbeats 4000000 in
set_option maxRecDepth 100000 in
theorem walk_Gea (a n m c : Int) (eb c3 : Int) (ta tb : ByteArray) (w : World) (hP : Pow w) (hne : (n == m) = false) (hc0 : (c == 0) = false) (l1 : -1 ≤ c) (l2 : c ≤ 1) 
    (h1 : ∀ W, Calls Tryd.prog 18 #[.agg #[.int .i64 a, .int .i64 n], .agg #[.int .i64 a, .int .i64 m]] W fun e w' => e = .returned (.int .i64 c) ∧ Below W.heap.size W w')
    (h2 : ∀ W, Calls Tryd.prog 18 #[.agg #[.int .i64 a, .int .i64 m], .agg #[.int .i64 a, .int .i64 n]] W fun e w' => e = .returned (.int .i64 (-c)) ∧ Below W.heap.size W w')
    (h3 : ∀ W, Calls Tryd.prog 18 #[.agg #[.int .i64 a, .int .i64 0], .agg #[.int .i64 a, .int .i64 0]] W fun e w' => e = .returned (.int .i64 c3) ∧ Below W.heap.size W w')
    (x1 : ∀ W, Pow W → Calls Tryd.prog 12 #[.agg #[.int .i64 a, .int .i64 0]] W fun e w' => e = .returned (.tuple #[.string ta, .int .i64 120]) ∧ Below W.heap.size W w')
    (x2 : ∀ W, Pow W → Calls Tryd.prog 12 #[.agg #[.int .i64 a, .int .i64 0]] W fun e w' => e = .returned (.tuple #[.string tb, .int .i64 eb]) ∧ Below W.heap.size W w') :
    Calls Tryd.prog 9 #[.agg #[.int .i64 a, .int .i64 n], .agg #[.int .i64 a, .int .i64 m]] w fun e w' => e = .returned (.bool true) ∧ Below w.heap.size w w' := by
  have HPw := Lib.hid hP
  have H1 := Lib.hid h1
  have H2 := Lib.hid h2
  have H3 := Lib.hid h3
  have X1 := Lib.hid x1
  have X2 := Lib.hid x2
  clear h1 h2 h3 x1 x2
  have hT := Two.start w a n a m
  have hB : Below w.heap.size w ((w.alloc (.cells #[.int .i64 a, .int .i64 n] 23)).alloc (.cells #[.int .i64 a, .int .i64 m] 23)) := bt (bAl w _) (bAl w _).size (bAl _ _)
  have hP0 := (hP.below (bAl w (.cells #[.int .i64 a, .int .i64 n] 23))).below (bAl _ (.cells #[.int .i64 a, .int .i64 m] 23))
  have HT := Lib.hid hT
  have HB := Lib.hid hB
  have HP := Lib.hid hP0
  clear hT hB hP0 hP
  go_enter Tryd.func9, Tryd.ntmps9
  go_wp2_with fail
  refine (alive_any _ HP.out).mono ?_
  rintro e w1 ⟨rfl, hb⟩
  replace HT := Lib.hid (HT.out.keep hb)
  replace HB := Lib.hid (bt HB.out HB.out.size hb)
  replace HP := Lib.hid (HP.out.below hb)
  clear hb
  have c0 := HT.out.c0
  have c1 := HT.out.c1
  have c2 := HT.out.c2
  have c3 := HT.out.c3
  have f1 := HT.out.f1
  have f3 := HT.out.f3
  go_wp2_with fail
  clear c0 c1 c2 c3 f1 f3
  refine (H1.out _).mono ?_
  rintro e w2 ⟨rfl, hb⟩
  replace HT := Lib.hid (HT.out.keep hb)
  replace HB := Lib.hid (bt HB.out HB.out.size hb)
  replace HP := Lib.hid (HP.out.below hb)
  clear hb
  have c0 := HT.out.c0
  have c1 := HT.out.c1
  have c2 := HT.out.c2
  have c3 := HT.out.c3
  have f1 := HT.out.f1
  have f3 := HT.out.f3
  go_wp2_with fail
  clear c0 c1 c2 c3 f1 f3
  refine (H2.out _).mono ?_
  rintro e w3 ⟨rfl, hb⟩
  replace HT := Lib.hid (HT.out.keep hb)
  replace HB := Lib.hid (bt HB.out HB.out.size hb)
  replace HP := Lib.hid (HP.out.below hb)
  clear hb
  have c0 := HT.out.c0
  have c1 := HT.out.c1
  have c2 := HT.out.c2
  have c3 := HT.out.c3
  have f1 := HT.out.f1
  have f3 := HT.out.f3
  go_wp2_with fail
  replace HT := Lib.hid HT.out.set
  have hB5 : Below w.heap.size w ((w3.setCell ⟨w.heap.size, 1, none⟩ (.int .i64 0)).setCell ⟨w.heap.size + 1, 1, none⟩ (.int .i64 0)) := (HB.out.setCell (by simp) _).setCell (by simp) _
  replace HB := Lib.hid hB5
  have hP5 : Pow ((w3.setCell ⟨w.heap.size, 1, none⟩ (.int .i64 0)).setCell ⟨w.heap.size + 1, 1, none⟩ (.int .i64 0)) := HPw.out.below HB.out
  replace HP := Lib.hid hP5
  clear hB5 hP5 c0 c1 c2 c3 f1 f3
  refine (X1.out _ HP.out).mono ?_
  rintro e w4 ⟨rfl, hb⟩
  replace HT := Lib.hid (HT.out.keep hb)
  replace HB := Lib.hid (bt HB.out HB.out.size hb)
  replace HP := Lib.hid (HP.out.below hb)
  clear hb
  have c0 := HT.out.c0
  have c1 := HT.out.c1
  have c2 := HT.out.c2
  have c3 := HT.out.c3
  have f1 := HT.out.f1
  have f3 := HT.out.f3
  go_wp2_with fail
  clear c0 c1 c2 c3 f1 f3
  refine (X2.out _ HP.out).mono ?_
  rintro e w5 ⟨rfl, hb⟩
  replace HT := Lib.hid (HT.out.keep hb)
  replace HB := Lib.hid (bt HB.out HB.out.size hb)
  replace HP := Lib.hid (HP.out.below hb)
  clear hb
  have c0 := HT.out.c0
  have c1 := HT.out.c1
  have c2 := HT.out.c2
  have c3 := HT.out.c3
  have f1 := HT.out.f1
  have f3 := HT.out.f3
  go_wp2_with fail
  clear c0 c1 c2 c3 f1 f3
  refine (H3.out _).mono ?_
  rintro e w6 ⟨rfl, hb⟩
  replace HB := Lib.hid (bt HB.out HB.out.size hb)
  clear hb
  go_wp2_with fail
  go_ret
  exact ⟨ret_bool (by simp), HB.out⟩
set_option maxHeartbeats 4000000 in
set_option maxRecDepth 100000 in
theorem walk_Geq (a n m c : Int) (ta : ByteArray) (w : World) (hP : Pow w) (hne : (n == m) = false) (hc0 : (c == 0) = false) (l1 : -1 ≤ c) (l2 : c ≤ 1) (hl : Op.bytesLess ta.toList ta.toList = false)
    (h1 : ∀ W, Calls Tryd.prog 18 #[.agg #[.int .i64 a, .int .i64 n], .agg #[.int .i64 a, .int .i64 m]] W fun e w' => e = .returned (.int .i64 c) ∧ Below W.heap.size W w')
    (h2 : ∀ W, Calls Tryd.prog 18 #[.agg #[.int .i64 a, .int .i64 m], .agg #[.int .i64 a, .int .i64 n]] W fun e w' => e = .returned (.int .i64 (-c)) ∧ Below W.heap.size W w')
    (h3 : ∀ W, Calls Tryd.prog 18 #[.agg #[.int .i64 a, .int .i64 0], .agg #[.int .i64 a, .int .i64 0]] W fun e w' => e = .returned (.int .i64 0) ∧ Below W.heap.size W w')
    (x1 : ∀ W, Pow W → Calls Tryd.prog 12 #[.agg #[.int .i64 a, .int .i64 0]] W fun e w' => e = .returned (.tuple #[.string ta, .int .i64 0]) ∧ Below W.heap.size W w')
    (x2 : ∀ W, Pow W → Calls Tryd.prog 12 #[.agg #[.int .i64 a, .int .i64 0]] W fun e w' => e = .returned (.tuple #[.string ta, .int .i64 0]) ∧ Below W.heap.size W w') :
    Calls Tryd.prog 9 #[.agg #[.int .i64 a, .int .i64 n], .agg #[.int .i64 a, .int .i64 m]] w fun e w' => e = .returned (.bool true) ∧ Below w.heap.size w w' := by
  have HPw := Lib.hid hP
  have H1 := Lib.hid h1
  have H2 := Lib.hid h2
  have H3 := Lib.hid h3
  have X1 := Lib.hid x1
  have X2 := Lib.hid x2
  clear h1 h2 h3 x1 x2
  have hT := Two.start w a n a m
  have hB : Below w.heap.size w ((w.alloc (.cells #[.int .i64 a, .int .i64 n] 23)).alloc (.cells #[.int .i64 a, .int .i64 m] 23)) := bt (bAl w _) (bAl w _).size (bAl _ _)
  have hP0 := (hP.below (bAl w (.cells #[.int .i64 a, .int .i64 n] 23))).below (bAl _ (.cells #[.int .i64 a, .int .i64 m] 23))
  have HT := Lib.hid hT
  have HB := Lib.hid hB
  have HP := Lib.hid hP0
  clear hT hB hP0 hP
  go_enter Tryd.func9, Tryd.ntmps9
  go_wp2_with fail
  refine (alive_any _ HP.out).mono ?_
  rintro e w1 ⟨rfl, hb⟩
  replace HT := Lib.hid (HT.out.keep hb)
  replace HB := Lib.hid (bt HB.out HB.out.size hb)
  replace HP := Lib.hid (HP.out.below hb)
  clear hb
  have c0 := HT.out.c0
  have c1 := HT.out.c1
  have c2 := HT.out.c2
  have c3 := HT.out.c3
  have f1 := HT.out.f1
  have f3 := HT.out.f3
  go_wp2_with fail
  clear c0 c1 c2 c3 f1 f3
  refine (H1.out _).mono ?_
  rintro e w2 ⟨rfl, hb⟩
  replace HT := Lib.hid (HT.out.keep hb)
  replace HB := Lib.hid (bt HB.out HB.out.size hb)
  replace HP := Lib.hid (HP.out.below hb)
  clear hb
  have c0 := HT.out.c0
  have c1 := HT.out.c1
  have c2 := HT.out.c2
  have c3 := HT.out.c3
  have f1 := HT.out.f1
  have f3 := HT.out.f3
  go_wp2_with fail
  clear c0 c1 c2 c3 f1 f3
  refine (H2.out _).mono ?_
  rintro e w3 ⟨rfl, hb⟩
  replace HT := Lib.hid (HT.out.keep hb)
  replace HB := Lib.hid (bt HB.out HB.out.size hb)
  replace HP := Lib.hid (HP.out.below hb)
  clear hb
  have c0 := HT.out.c0
  have c1 := HT.out.c1
  have c2 := HT.out.c2
  have c3 := HT.out.c3
  have f1 := HT.out.f1
  have f3 := HT.out.f3
  go_wp2_with fail
  replace HT := Lib.hid HT.out.set
  have hB5 : Below w.heap.size w ((w3.setCell ⟨w.heap.size, 1, none⟩ (.int .i64 0)).setCell ⟨w.heap.size + 1, 1, none⟩ (.int .i64 0)) := (HB.out.setCell (by simp) _).setCell (by simp) _
  replace HB := Lib.hid hB5
  have hP5 : Pow ((w3.setCell ⟨w.heap.size, 1, none⟩ (.int .i64 0)).setCell ⟨w.heap.size + 1, 1, none⟩ (.int .i64 0)) := HPw.out.below HB.out
  replace HP := Lib.hid hP5
  clear hB5 hP5 c0 c1 c2 c3 f1 f3
  refine (X1.out _ HP.out).mono ?_
  rintro e w4 ⟨rfl, hb⟩
  replace HT := Lib.hid (HT.out.keep hb)
  replace HB := Lib.hid (bt HB.out HB.out.size hb)
  replace HP := Lib.hid (HP.out.below hb)
  clear hb
  have c0 := HT.out.c0
  have c1 := HT.out.c1
  have c2 := HT.out.c2
  have c3 := HT.out.c3
  have f1 := HT.out.f1
  have f3 := HT.out.f3
  go_wp2_with fail
  clear c0 c1 c2 c3 f1 f3
  refine (X2.out _ HP.out).mono ?_
  rintro e w5 ⟨rfl, hb⟩
  replace HT := Lib.hid (HT.out.keep hb)
  replace HB := Lib.hid (bt HB.out HB.out.size hb)
  replace HP := Lib.hid (HP.out.below hb)
  clear hb
  have c0 := HT.out.c0
  have c1 := HT.out.c1
  have c2 := HT.out.c2
  have c3 := HT.out.c3
  have f1 := HT.out.f1
  have f3 := HT.out.f3
  go_wp2_with fail
  clear c0 c1 c2 c3 f1 f3
  refine (H3.out _).mono ?_
  rintro e w6 ⟨rfl, hb⟩
  replace HB := Lib.hid (bt HB.out HB.out.size hb)
  clear hb
  go_wp2_with fail
  go_ret
  exact ⟨ret_bool (by simp), HB.out⟩
set_option maxHeartbeats 4000000 in
set_option maxRecDepth 100000 in
theorem walk_Fea (a n b m c : Int) (eb c3 : Int) (ta tb : ByteArray) (w : World) (hP : Pow w) (hne : (a == b) = false) (hc0 : (c == 0) = false) (l1 : -1 ≤ c) (l2 : c ≤ 1) 
    (h1 : ∀ W, Calls Tryd.prog 18 #[.agg #[.int .i64 a, .int .i64 n], .agg #[.int .i64 b, .int .i64 m]] W fun e w' => e = .returned (.int .i64 c) ∧ Below W.heap.size W w')
    (h2 : ∀ W, Calls Tryd.prog 18 #[.agg #[.int .i64 b, .int .i64 m], .agg #[.int .i64 a, .int .i64 n]] W fun e w' => e = .returned (.int .i64 (-c)) ∧ Below W.heap.size W w')
    (h3 : ∀ W, Calls Tryd.prog 18 #[.agg #[.int .i64 a, .int .i64 0], .agg #[.int .i64 b, .int .i64 0]] W fun e w' => e = .returned (.int .i64 c3) ∧ Below W.heap.size W w')
    (x1 : ∀ W, Pow W → Calls Tryd.prog 12 #[.agg #[.int .i64 a, .int .i64 0]] W fun e w' => e = .returned (.tuple #[.string ta, .int .i64 120]) ∧ Below W.heap.size W w')
    (x2 : ∀ W, Pow W → Calls Tryd.prog 12 #[.agg #[.int .i64 b, .int .i64 0]] W fun e w' => e = .returned (.tuple #[.string tb, .int .i64 eb]) ∧ Below W.heap.size W w') :
    Calls Tryd.prog 9 #[.agg #[.int .i64 a, .int .i64 n], .agg #[.int .i64 b, .int .i64 m]] w fun e w' => e = .returned (.bool true) ∧ Below w.heap.size w w' := by
  have HPw := Lib.hid hP
  have H1 := Lib.hid h1
  have H2 := Lib.hid h2
  have H3 := Lib.hid h3
  have X1 := Lib.hid x1
  have X2 := Lib.hid x2
  clear h1 h2 h3 x1 x2
  have hT := Two.start w a n b m
  have hB : Below w.heap.size w ((w.alloc (.cells #[.int .i64 a, .int .i64 n] 23)).alloc (.cells #[.int .i64 b, .int .i64 m] 23)) := bt (bAl w _) (bAl w _).size (bAl _ _)
  have hP0 := (hP.below (bAl w (.cells #[.int .i64 a, .int .i64 n] 23))).below (bAl _ (.cells #[.int .i64 b, .int .i64 m] 23))
  have HT := Lib.hid hT
  have HB := Lib.hid hB
  have HP := Lib.hid hP0
  clear hT hB hP0 hP
  go_enter Tryd.func9, Tryd.ntmps9
  go_wp2_with fail
  refine (alive_any _ HP.out).mono ?_
  rintro e w1 ⟨rfl, hb⟩
  replace HT := Lib.hid (HT.out.keep hb)
  replace HB := Lib.hid (bt HB.out HB.out.size hb)
  replace HP := Lib.hid (HP.out.below hb)
  clear hb
  have c0 := HT.out.c0
  have c1 := HT.out.c1
  have c2 := HT.out.c2
  have c3 := HT.out.c3
  have f1 := HT.out.f1
  have f3 := HT.out.f3
  go_wp2_with fail
  clear c0 c1 c2 c3 f1 f3
  refine (H1.out _).mono ?_
  rintro e w2 ⟨rfl, hb⟩
  replace HT := Lib.hid (HT.out.keep hb)
  replace HB := Lib.hid (bt HB.out HB.out.size hb)
  replace HP := Lib.hid (HP.out.below hb)
  clear hb
  have c0 := HT.out.c0
  have c1 := HT.out.c1
  have c2 := HT.out.c2
  have c3 := HT.out.c3
  have f1 := HT.out.f1
  have f3 := HT.out.f3
  go_wp2_with fail
  clear c0 c1 c2 c3 f1 f3
  refine (H2.out _).mono ?_
  rintro e w3 ⟨rfl, hb⟩
  replace HT := Lib.hid (HT.out.keep hb)
  replace HB := Lib.hid (bt HB.out HB.out.size hb)
  replace HP := Lib.hid (HP.out.below hb)
  clear hb
  have c0 := HT.out.c0
  have c1 := HT.out.c1
  have c2 := HT.out.c2
  have c3 := HT.out.c3
  have f1 := HT.out.f1
  have f3 := HT.out.f3
  go_wp2_with fail
  replace HT := Lib.hid HT.out.set
  have hB5 : Below w.heap.size w ((w3.setCell ⟨w.heap.size, 1, none⟩ (.int .i64 0)).setCell ⟨w.heap.size + 1, 1, none⟩ (.int .i64 0)) := (HB.out.setCell (by simp) _).setCell (by simp) _
  replace HB := Lib.hid hB5
  have hP5 : Pow ((w3.setCell ⟨w.heap.size, 1, none⟩ (.int .i64 0)).setCell ⟨w.heap.size + 1, 1, none⟩ (.int .i64 0)) := HPw.out.below HB.out
  replace HP := Lib.hid hP5
  clear hB5 hP5 c0 c1 c2 c3 f1 f3
  refine (X1.out _ HP.out).mono ?_
  rintro e w4 ⟨rfl, hb⟩
  replace HT := Lib.hid (HT.out.keep hb)
  replace HB := Lib.hid (bt HB.out HB.out.size hb)
  replace HP := Lib.hid (HP.out.below hb)
  clear hb
  have c0 := HT.out.c0
  have c1 := HT.out.c1
  have c2 := HT.out.c2
  have c3 := HT.out.c3
  have f1 := HT.out.f1
  have f3 := HT.out.f3
  go_wp2_with fail
  clear c0 c1 c2 c3 f1 f3
  refine (X2.out _ HP.out).mono ?_
  rintro e w5 ⟨rfl, hb⟩
  replace HT := Lib.hid (HT.out.keep hb)
  replace HB := Lib.hid (bt HB.out HB.out.size hb)
  replace HP := Lib.hid (HP.out.below hb)
  clear hb
  have c0 := HT.out.c0
  have c1 := HT.out.c1
  have c2 := HT.out.c2
  have c3 := HT.out.c3
  have f1 := HT.out.f1
  have f3 := HT.out.f3
  go_wp2_with fail
  clear c0 c1 c2 c3 f1 f3
  refine (H3.out _).mono ?_
  rintro e w6 ⟨rfl, hb⟩
  replace HB := Lib.hid (bt HB.out HB.out.size hb)
  clear hb
  go_wp2_with fail
  go_ret
  exact ⟨ret_bool (by simp), HB.out⟩
set_option maxHeartbeats 4000000 in
set_option maxRecDepth 100000 in
theorem walk_Feb (a n b m c : Int) (c3 : Int) (ta tb : ByteArray) (w : World) (hP : Pow w) (hne : (a == b) = false) (hc0 : (c == 0) = false) (l1 : -1 ≤ c) (l2 : c ≤ 1) 
    (h1 : ∀ W, Calls Tryd.prog 18 #[.agg #[.int .i64 a, .int .i64 n], .agg #[.int .i64 b, .int .i64 m]] W fun e w' => e = .returned (.int .i64 c) ∧ Below W.heap.size W w')
    (h2 : ∀ W, Calls Tryd.prog 18 #[.agg #[.int .i64 b, .int .i64 m], .agg #[.int .i64 a, .int .i64 n]] W fun e w' => e = .returned (.int .i64 (-c)) ∧ Below W.heap.size W w')
    (h3 : ∀ W, Calls Tryd.prog 18 #[.agg #[.int .i64 a, .int .i64 0], .agg #[.int .i64 b, .int .i64 0]] W fun e w' => e = .returned (.int .i64 c3) ∧ Below W.heap.size W w')
    (x1 : ∀ W, Pow W → Calls Tryd.prog 12 #[.agg #[.int .i64 a, .int .i64 0]] W fun e w' => e = .returned (.tuple #[.string ta, .int .i64 0]) ∧ Below W.heap.size W w')
    (x2 : ∀ W, Pow W → Calls Tryd.prog 12 #[.agg #[.int .i64 b, .int .i64 0]] W fun e w' => e = .returned (.tuple #[.string tb, .int .i64 120]) ∧ Below W.heap.size W w') :
    Calls Tryd.prog 9 #[.agg #[.int .i64 a, .int .i64 n], .agg #[.int .i64 b, .int .i64 m]] w fun e w' => e = .returned (.bool true) ∧ Below w.heap.size w w' := by
  have HPw := Lib.hid hP
  have H1 := Lib.hid h1
  have H2 := Lib.hid h2
  have H3 := Lib.hid h3
  have X1 := Lib.hid x1
  have X2 := Lib.hid x2
  clear h1 h2 h3 x1 x2
  have hT := Two.start w a n b m
  have hB : Below w.heap.size w ((w.alloc (.cells #[.int .i64 a, .int .i64 n] 23)).alloc (.cells #[.int .i64 b, .int .i64 m] 23)) := bt (bAl w _) (bAl w _).size (bAl _ _)
  have hP0 := (hP.below (bAl w (.cells #[.int .i64 a, .int .i64 n] 23))).below (bAl _ (.cells #[.int .i64 b, .int .i64 m] 23))
  have HT := Lib.hid hT
  have HB := Lib.hid hB
  have HP := Lib.hid hP0
  clear hT hB hP0 hP
  go_enter Tryd.func9, Tryd.ntmps9
  go_wp2_with fail
  refine (alive_any _ HP.out).mono ?_
  rintro e w1 ⟨rfl, hb⟩
  replace HT := Lib.hid (HT.out.keep hb)
  replace HB := Lib.hid (bt HB.out HB.out.size hb)
  replace HP := Lib.hid (HP.out.below hb)
  clear hb
  have c0 := HT.out.c0
  have c1 := HT.out.c1
  have c2 := HT.out.c2
  have c3 := HT.out.c3
  have f1 := HT.out.f1
  have f3 := HT.out.f3
  go_wp2_with fail
  clear c0 c1 c2 c3 f1 f3
  refine (H1.out _).mono ?_
  rintro e w2 ⟨rfl, hb⟩
  replace HT := Lib.hid (HT.out.keep hb)
  replace HB := Lib.hid (bt HB.out HB.out.size hb)
  replace HP := Lib.hid (HP.out.below hb)
  clear hb
  have c0 := HT.out.c0
  have c1 := HT.out.c1
  have c2 := HT.out.c2
  have c3 := HT.out.c3
  have f1 := HT.out.f1
  have f3 := HT.out.f3
  go_wp2_with fail
  clear c0 c1 c2 c3 f1 f3
  refine (H2.out _).mono ?_
  rintro e w3 ⟨rfl, hb⟩
  replace HT := Lib.hid (HT.out.keep hb)
  replace HB := Lib.hid (bt HB.out HB.out.size hb)
  replace HP := Lib.hid (HP.out.below hb)
  clear hb
  have c0 := HT.out.c0
  have c1 := HT.out.c1
  have c2 := HT.out.c2
  have c3 := HT.out.c3
  have f1 := HT.out.f1
  have f3 := HT.out.f3
  go_wp2_with fail
  replace HT := Lib.hid HT.out.set
  have hB5 : Below w.heap.size w ((w3.setCell ⟨w.heap.size, 1, none⟩ (.int .i64 0)).setCell ⟨w.heap.size + 1, 1, none⟩ (.int .i64 0)) := (HB.out.setCell (by simp) _).setCell (by simp) _
  replace HB := Lib.hid hB5
  have hP5 : Pow ((w3.setCell ⟨w.heap.size, 1, none⟩ (.int .i64 0)).setCell ⟨w.heap.size + 1, 1, none⟩ (.int .i64 0)) := HPw.out.below HB.out
  replace HP := Lib.hid hP5
  clear hB5 hP5 c0 c1 c2 c3 f1 f3
  refine (X1.out _ HP.out).mono ?_
  rintro e w4 ⟨rfl, hb⟩
  replace HT := Lib.hid (HT.out.keep hb)
  replace HB := Lib.hid (bt HB.out HB.out.size hb)
  replace HP := Lib.hid (HP.out.below hb)
  clear hb
  have c0 := HT.out.c0
  have c1 := HT.out.c1
  have c2 := HT.out.c2
  have c3 := HT.out.c3
  have f1 := HT.out.f1
  have f3 := HT.out.f3
  go_wp2_with fail
  clear c0 c1 c2 c3 f1 f3
  refine (X2.out _ HP.out).mono ?_
  rintro e w5 ⟨rfl, hb⟩
  replace HT := Lib.hid (HT.out.keep hb)
  replace HB := Lib.hid (bt HB.out HB.out.size hb)
  replace HP := Lib.hid (HP.out.below hb)
  clear hb
  have c0 := HT.out.c0
  have c1 := HT.out.c1
  have c2 := HT.out.c2
  have c3 := HT.out.c3
  have f1 := HT.out.f1
  have f3 := HT.out.f3
  go_wp2_with fail
  clear c0 c1 c2 c3 f1 f3
  refine (H3.out _).mono ?_
  rintro e w6 ⟨rfl, hb⟩
  replace HB := Lib.hid (bt HB.out HB.out.size hb)
  clear hb
  go_wp2_with fail
  go_ret
  exact ⟨ret_bool (by simp), HB.out⟩
set_option maxHeartbeats 4000000 in
set_option maxRecDepth 100000 in
theorem walk_Flt (a n b m c : Int) (ta tb : ByteArray) (w : World) (hP : Pow w) (hne : (a == b) = false) (hc0 : (c == 0) = false) (l1 : -1 ≤ c) (l2 : c ≤ 1) (hl : Op.bytesLess ta.toList tb.toList = true) (he : (ta.toList == tb.toList) = false)
    (h1 : ∀ W, Calls Tryd.prog 18 #[.agg #[.int .i64 a, .int .i64 n], .agg #[.int .i64 b, .int .i64 m]] W fun e w' => e = .returned (.int .i64 c) ∧ Below W.heap.size W w')
    (h2 : ∀ W, Calls Tryd.prog 18 #[.agg #[.int .i64 b, .int .i64 m], .agg #[.int .i64 a, .int .i64 n]] W fun e w' => e = .returned (.int .i64 (-c)) ∧ Below W.heap.size W w')
    (h3 : ∀ W, Calls Tryd.prog 18 #[.agg #[.int .i64 a, .int .i64 0], .agg #[.int .i64 b, .int .i64 0]] W fun e w' => e = .returned (.int .i64 (-1)) ∧ Below W.heap.size W w')
    (x1 : ∀ W, Pow W → Calls Tryd.prog 12 #[.agg #[.int .i64 a, .int .i64 0]] W fun e w' => e = .returned (.tuple #[.string ta, .int .i64 0]) ∧ Below W.heap.size W w')
    (x2 : ∀ W, Pow W → Calls Tryd.prog 12 #[.agg #[.int .i64 b, .int .i64 0]] W fun e w' => e = .returned (.tuple #[.string tb, .int .i64 0]) ∧ Below W.heap.size W w') :
    Calls Tryd.prog 9 #[.agg #[.int .i64 a, .int .i64 n], .agg #[.int .i64 b, .int .i64 m]] w fun e w' => e = .returned (.bool true) ∧ Below w.heap.size w w' := by
  have HPw := Lib.hid hP
  have H1 := Lib.hid h1
  have H2 := Lib.hid h2
  have H3 := Lib.hid h3
  have X1 := Lib.hid x1
  have X2 := Lib.hid x2
  clear h1 h2 h3 x1 x2
  have hT := Two.start w a n b m
  have hB : Below w.heap.size w ((w.alloc (.cells #[.int .i64 a, .int .i64 n] 23)).alloc (.cells #[.int .i64 b, .int .i64 m] 23)) := bt (bAl w _) (bAl w _).size (bAl _ _)
  have hP0 := (hP.below (bAl w (.cells #[.int .i64 a, .int .i64 n] 23))).below (bAl _ (.cells #[.int .i64 b, .int .i64 m] 23))
  have HT := Lib.hid hT
  have HB := Lib.hid hB
  have HP := Lib.hid hP0
  clear hT hB hP0 hP
  go_enter Tryd.func9, Tryd.ntmps9
  go_wp2_with fail
  refine (alive_any _ HP.out).mono ?_
  rintro e w1 ⟨rfl, hb⟩
  replace HT := Lib.hid (HT.out.keep hb)
  replace HB := Lib.hid (bt HB.out HB.out.size hb)
  replace HP := Lib.hid (HP.out.below hb)
  clear hb
  have c0 := HT.out.c0
  have c1 := HT.out.c1
  have c2 := HT.out.c2
  have c3 := HT.out.c3
  have f1 := HT.out.f1
  have f3 := HT.out.f3
  go_wp2_with fail
  clear c0 c1 c2 c3 f1 f3
  refine (H1.out _).mono ?_
  rintro e w2 ⟨rfl, hb⟩
  replace HT := Lib.hid (HT.out.keep hb)
  replace HB := Lib.hid (bt HB.out HB.out.size hb)
  replace HP := Lib.hid (HP.out.below hb)
  clear hb
  have c0 := HT.out.c0
  have c1 := HT.out.c1
  have c2 := HT.out.c2
  have c3 := HT.out.c3
  have f1 := HT.out.f1
  have f3 := HT.out.f3
  go_wp2_with fail
  clear c0 c1 c2 c3 f1 f3
  refine (H2.out _).mono ?_
  rintro e w3 ⟨rfl, hb⟩
  replace HT := Lib.hid (HT.out.keep hb)
  replace HB := Lib.hid (bt HB.out HB.out.size hb)
  replace HP := Lib.hid (HP.out.below hb)
  clear hb
  have c0 := HT.out.c0
  have c1 := HT.out.c1
  have c2 := HT.out.c2
  have c3 := HT.out.c3
  have f1 := HT.out.f1
  have f3 := HT.out.f3
  go_wp2_with fail
  replace HT := Lib.hid HT.out.set
  have hB5 : Below w.heap.size w ((w3.setCell ⟨w.heap.size, 1, none⟩ (.int .i64 0)).setCell ⟨w.heap.size + 1, 1, none⟩ (.int .i64 0)) := (HB.out.setCell (by simp) _).setCell (by simp) _
  replace HB := Lib.hid hB5
  have hP5 : Pow ((w3.setCell ⟨w.heap.size, 1, none⟩ (.int .i64 0)).setCell ⟨w.heap.size + 1, 1, none⟩ (.int .i64 0)) := HPw.out.below HB.out
  replace HP := Lib.hid hP5
  clear hB5 hP5 c0 c1 c2 c3 f1 f3
  refine (X1.out _ HP.out).mono ?_
  rintro e w4 ⟨rfl, hb⟩
  replace HT := Lib.hid (HT.out.keep hb)
  replace HB := Lib.hid (bt HB.out HB.out.size hb)
  replace HP := Lib.hid (HP.out.below hb)
  clear hb
  have c0 := HT.out.c0
  have c1 := HT.out.c1
  have c2 := HT.out.c2
  have c3 := HT.out.c3
  have f1 := HT.out.f1
  have f3 := HT.out.f3
  go_wp2_with fail
  clear c0 c1 c2 c3 f1 f3
  refine (X2.out _ HP.out).mono ?_
  rintro e w5 ⟨rfl, hb⟩
  replace HT := Lib.hid (HT.out.keep hb)
  replace HB := Lib.hid (bt HB.out HB.out.size hb)
  replace HP := Lib.hid (HP.out.below hb)
  clear hb
  have c0 := HT.out.c0
  have c1 := HT.out.c1
  have c2 := HT.out.c2
  have c3 := HT.out.c3
  have f1 := HT.out.f1
  have f3 := HT.out.f3
  go_wp2_with fail
  clear c0 c1 c2 c3 f1 f3
  refine (H3.out _).mono ?_
  rintro e w6 ⟨rfl, hb⟩
  replace HB := Lib.hid (bt HB.out HB.out.size hb)
  clear hb
  go_wp2_with fail
  go_ret
  exact ⟨ret_bool (by simp), HB.out⟩
set_option maxHeartbeats 4000000 in
set_option maxRecDepth 100000 in
theorem walk_Fgt (a n b m c : Int) (ta tb : ByteArray) (w : World) (hP : Pow w) (hne : (a == b) = false) (hc0 : (c == 0) = false) (l1 : -1 ≤ c) (l2 : c ≤ 1) (hl : Op.bytesLess ta.toList tb.toList = false) (he : (ta.toList == tb.toList) = false)
    (h1 : ∀ W, Calls Tryd.prog 18 #[.agg #[.int .i64 a, .int .i64 n], .agg #[.int .i64 b, .int .i64 m]] W fun e w' => e = .returned (.int .i64 c) ∧ Below W.heap.size W w')
    (h2 : ∀ W, Calls Tryd.prog 18 #[.agg #[.int .i64 b, .int .i64 m], .agg #[.int .i64 a, .int .i64 n]] W fun e w' => e = .returned (.int .i64 (-c)) ∧ Below W.heap.size W w')
    (h3 : ∀ W, Calls Tryd.prog 18 #[.agg #[.int .i64 a, .int .i64 0], .agg #[.int .i64 b, .int .i64 0]] W fun e w' => e = .returned (.int .i64 1) ∧ Below W.heap.size W w')
    (x1 : ∀ W, Pow W → Calls Tryd.prog 12 #[.agg #[.int .i64 a, .int .i64 0]] W fun e w' => e = .returned (.tuple #[.string ta, .int .i64 0]) ∧ Below W.heap.size W w')
    (x2 : ∀ W, Pow W → Calls Tryd.prog 12 #[.agg #[.int .i64 b, .int .i64 0]] W fun e w' => e = .returned (.tuple #[.string tb, .int .i64 0]) ∧ Below W.heap.size W w') :
    Calls Tryd.prog 9 #[.agg #[.int .i64 a, .int .i64 n], .agg #[.int .i64 b, .int .i64 m]] w fun e w' => e = .returned (.bool true) ∧ Below w.heap.size w w' := by
  have HPw := Lib.hid hP
  have H1 := Lib.hid h1
  have H2 := Lib.hid h2
  have H3 := Lib.hid h3
  have X1 := Lib.hid x1
  have X2 := Lib.hid x2
  clear h1 h2 h3 x1 x2
  have hT := Two.start w a n b m
  have hB : Below w.heap.size w ((w.alloc (.cells #[.int .i64 a, .int .i64 n] 23)).alloc (.cells #[.int .i64 b, .int .i64 m] 23)) := bt (bAl w _) (bAl w _).size (bAl _ _)
  have hP0 := (hP.below (bAl w (.cells #[.int .i64 a, .int .i64 n] 23))).below (bAl _ (.cells #[.int .i64 b, .int .i64 m] 23))
  have HT := Lib.hid hT
  have HB := Lib.hid hB
  have HP := Lib.hid hP0
  clear hT hB hP0 hP
  go_enter Tryd.func9, Tryd.ntmps9
  go_wp2_with fail
  refine (alive_any _ HP.out).mono ?_
  rintro e w1 ⟨rfl, hb⟩
  replace HT := Lib.hid (HT.out.keep hb)
  replace HB := Lib.hid (bt HB.out HB.out.size hb)
  replace HP := Lib.hid (HP.out.below hb)
  clear hb
  have c0 := HT.out.c0
  have c1 := HT.out.c1
  have c2 := HT.out.c2
  have c3 := HT.out.c3
  have f1 := HT.out.f1
  have f3 := HT.out.f3
  go_wp2_with fail
  clear c0 c1 c2 c3 f1 f3
  refine (H1.out _).mono ?_
  rintro e w2 ⟨rfl, hb⟩
  replace HT := Lib.hid (HT.out.keep hb)
  replace HB := Lib.hid (bt HB.out HB.out.size hb)
  replace HP := Lib.hid (HP.out.below hb)
  clear hb
  have c0 := HT.out.c0
  have c1 := HT.out.c1
  have c2 := HT.out.c2
  have c3 := HT.out.c3
  have f1 := HT.out.f1
  have f3 := HT.out.f3
  go_wp2_with fail
  clear c0 c1 c2 c3 f1 f3
  refine (H2.out _).mono ?_
  rintro e w3 ⟨rfl, hb⟩
  replace HT := Lib.hid (HT.out.keep hb)
  replace HB := Lib.hid (bt HB.out HB.out.size hb)
  replace HP := Lib.hid (HP.out.below hb)
  clear hb
  have c0 := HT.out.c0
  have c1 := HT.out.c1
  have c2 := HT.out.c2
  have c3 := HT.out.c3
  have f1 := HT.out.f1
  have f3 := HT.out.f3
  go_wp2_with fail
  replace HT := Lib.hid HT.out.set
  have hB5 : Below w.heap.size w ((w3.setCell ⟨w.heap.size, 1, none⟩ (.int .i64 0)).setCell ⟨w.heap.size + 1, 1, none⟩ (.int .i64 0)) := (HB.out.setCell (by simp) _).setCell (by simp) _
  replace HB := Lib.hid hB5
  have hP5 : Pow ((w3.setCell ⟨w.heap.size, 1, none⟩ (.int .i64 0)).setCell ⟨w.heap.size + 1, 1, none⟩ (.int .i64 0)) := HPw.out.below HB.out
  replace HP := Lib.hid hP5
  clear hB5 hP5 c0 c1 c2 c3 f1 f3
  refine (X1.out _ HP.out).mono ?_
  rintro e w4 ⟨rfl, hb⟩
  replace HT := Lib.hid (HT.out.keep hb)
  replace HB := Lib.hid (bt HB.out HB.out.size hb)
  replace HP := Lib.hid (HP.out.below hb)
  clear hb
  have c0 := HT.out.c0
  have c1 := HT.out.c1
  have c2 := HT.out.c2
  have c3 := HT.out.c3
  have f1 := HT.out.f1
  have f3 := HT.out.f3
  go_wp2_with fail
  clear c0 c1 c2 c3 f1 f3
  refine (X2.out _ HP.out).mono ?_
  rintro e w5 ⟨rfl, hb⟩
  replace HT := Lib.hid (HT.out.keep hb)
  replace HB := Lib.hid (bt HB.out HB.out.size hb)
  replace HP := Lib.hid (HP.out.below hb)
  clear hb
  have c0 := HT.out.c0
  have c1 := HT.out.c1
  have c2 := HT.out.c2
  have c3 := HT.out.c3
  have f1 := HT.out.f1
  have f3 := HT.out.f3
  go_wp2_with fail
  clear c0 c1 c2 c3 f1 f3
  refine (H3.out _).mono ?_
  rintro e w6 ⟨rfl, hb⟩
  replace HB := Lib.hid (bt HB.out HB.out.size hb)
  clear hb
  go_wp2_with fail
  go_ret
  exact ⟨ret_bool (by simp), HB.out⟩
theorem cmp_bd (s n t m : Int) : -1 ≤ cmpD s n t m ∧ cmpD s n t m ≤ 1 := by
  unfold cmpD cmp2
  repeat' split
  all_goals omega
theorem tx_ok (a : Int) (h : okD a 0 = true) : ∀ W, Pow W → Calls Tryd.prog 12 #[.agg #[.int .i64 a, .int .i64 0]] W fun e w' => e = .returned (.tuple #[.string ⟨(textL a 0).toArray⟩, .int .i64 0]) ∧ Below W.heap.size W w' := by
  intro W hW
  have := text_any a 0 W hW
  rw [show TextV a 0 = .tuple #[.string ⟨(textL a 0).toArray⟩, .int .i64 0] from if_pos h] at this
  exact this
theorem tx_no (a : Int) (h : okD a 0 = false) : ∀ W, Pow W → Calls Tryd.prog 12 #[.agg #[.int .i64 a, .int .i64 0]] W fun e w' => e = .returned (.tuple #[.string ⟨#[]⟩, .int .i64 120]) ∧ Below W.heap.size W w' := by
  intro W hW
  have := text_any a 0 W hW
  rw [show TextV a 0 = .tuple #[.string ⟨#[]⟩, .int .i64 120] from if_neg (by rw [h]; decide)] at this
  exact this
theorem cm (s n t m c : Int) (h : cmpD s n t m = c) : ∀ W, Calls Tryd.prog 18 #[.agg #[.int .i64 s, .int .i64 n], .agg #[.int .i64 t, .int .i64 m]] W fun e w' => e = .returned (.int .i64 c) ∧ Below W.heap.size W w' := by
  intro W
  have := compare_any s n t m W
  rw [h] at this
  exact this
theorem tl (l : List UInt8) : (⟨l.toArray⟩ : ByteArray).toList = l := by rw [ByteArray.toList_eq]
theorem walk (a n b m : Int) (w : World) (hP : Pow w) : Calls Tryd.prog 9 #[.agg #[.int .i64 a, .int .i64 n], .agg #[.int .i64 b, .int .i64 m]] w fun e w' => e = .returned (.bool true) ∧ Below w.heap.size w w' := by
  by_cases hab : a = b
  · subst hab
    have h3 := cm a 0 a 0 0 ((cmpD_zero _ _ _ _).2 ⟨rfl, rfl⟩)
    by_cases hnm : n = m
    · subst hnm
      have h1 := cm a n a n 0 ((cmpD_zero _ _ _ _).2 ⟨rfl, rfl⟩)
      cases hok : okD a 0
      · exact walk_Eea a n 120 0 ⟨#[]⟩ ⟨#[]⟩ w hP h1 h1 h3 (tx_no a hok) (tx_no a hok)
      · exact walk_Eeq a n _ w hP (bl_irrefl _) h1 h1 h3 (tx_ok a hok) (tx_ok a hok)
    · have hne : (n == m) = false := by rw [beq_eq_false_iff_ne]; exact hnm
      have hc0 : (cmpD a n a m == 0) = false := by
        rw [beq_eq_false_iff_ne]
        exact fun e => hnm ((cmpD_zero _ _ _ _).1 e).2
      obtain ⟨l1, l2⟩ := cmp_bd a n a m
      have h1 := cm a n a m _ rfl
      have h2 := cm a m a n _ (cmpD_neg a n a m)
      cases hok : okD a 0
      · exact walk_Gea a n m _ 120 0 ⟨#[]⟩ ⟨#[]⟩ w hP hne hc0 l1 l2 h1 h2 h3 (tx_no a hok) (tx_no a hok)
      · exact walk_Geq a n m _ _ w hP hne hc0 l1 l2 (bl_irrefl _) h1 h2 h3 (tx_ok a hok) (tx_ok a hok)
  · have hne : (a == b) = false := by rw [beq_eq_false_iff_ne]; exact hab
    have hc0 : (cmpD a n b m == 0) = false := by
      rw [beq_eq_false_iff_ne]
      exact fun e => hab ((cmpD_zero _ _ _ _).1 e).1
    obtain ⟨l1, l2⟩ := cmp_bd a n b m
    have h1 := cm a n b m _ rfl
    have h2 := cm b m a n _ (cmpD_neg a n b m)
    have h3 := cm a 0 b 0 _ rfl
    cases hok : okD a 0
    · cases hok2 : okD b 0
      · exact walk_Fea a n b m _ _ _ ⟨#[]⟩ ⟨#[]⟩ w hP hne hc0 l1 l2 h1 h2 h3 (tx_no a hok) (tx_no b hok2)
      · exact walk_Fea a n b m _ _ _ ⟨#[]⟩ _ w hP hne hc0 l1 l2 h1 h2 h3 (tx_no a hok) (tx_ok b hok2)
    · cases hok2 : okD b 0
      · exact walk_Feb a n b m _ _ _ ⟨#[]⟩ w hP hne hc0 l1 l2 h1 h2 h3 (tx_ok a hok) (tx_no b hok2)
      · by_cases hlt : a < b
        · have h9 := text_lt a b hok hok2 hlt
          have hv : cmpD a 0 b 0 = -1 := by unfold cmpD cmp2; rw [if_neg (by rw [if_pos hlt]; decide), if_pos hlt]
          exact walk_Flt a n b m _ _ _ w hP hne hc0 l1 l2 (by rw [tl, tl]; exact h9) (by rw [tl, tl, beq_eq_false_iff_ne]; intro e; rw [e, bl_irrefl] at h9; cases h9) h1 h2 (cm _ _ _ _ _ hv) (tx_ok a hok) (tx_ok b hok2)
        · have hgt : b < a := by omega
          have h9 := text_lt b a hok2 hok hgt
          have hv : cmpD a 0 b 0 = 1 := by unfold cmpD cmp2; rw [if_neg (by rw [if_neg hlt, if_pos hgt]; decide), if_neg hlt, if_pos hgt]
          exact walk_Fgt a n b m _ _ _ w hP hne hc0 l1 l2 (by rw [tl, tl]; exact bl_asymm _ _ h9) (by rw [tl, tl, beq_eq_false_iff_ne]; intro e; rw [e, bl_irrefl] at h9; cases h9) h1 h2 (cm _ _ _ _ _ hv) (tx_ok a hok) (tx_ok b hok2)
open Go.ChangeShapes Go.WideShapes Go.ChangeAt
open Go.ChangeMaps (open_string shut_string)
theorem own : ownKnob Tryd.prog.godebug = none := by kernel_rfl
theorem laidOut : laidOutB Tryd.prog = true := by kernel_rfl
def laidL : List (String × DataW Unit) := [("math/bits.deBruijn32tab", Rows.laid_math_bits_deBruijn32tab), ("math/bits.deBruijn64tab", Rows.laid_math_bits_deBruijn64tab), ("internal/strconv.uint64pow10", Rows.laid_internal_strconv_uint64pow10), ("unicode/utf8.acceptRanges", Rows.laid_unicode_utf8_acceptRanges), ("unicode/utf8.first", Rows.laid_unicode_utf8_first)]
theorem tabIs_of_reads {P : Program} {W : World} {name : String} {k : IntKind} {zs : List Int} {g : Nat} {t e : TypeId} {n : Nat}
    (hg : P.globalNamed name = some g) (hty : (P.globals[g]?).map (·.type) = some t) (ht : P.underlying t = some (.array n e)) (he : P.underlying e = some (.int k)) (hce : P.cellsOf e = 1) (hct : P.cellsOf t = n)
    (h : Lib.VarReads P W name (Lib.tabData k zs)) : Lib.TabIs P W name k zs := by
  obtain ⟨g', t', cs, fuel, p, hg', ht', hvar, hd⟩ := h
  obtain rfl := Option.some.inj (hg.symm.trans hg')
  obtain rfl := Option.some.inj (hty.symm.trans ht')
  unfold Lib.TabIs
  rw [hvar, ← Lib.cells_of_tab ht he hce hct hd]
theorem pow_eq : (Rows.laid_internal_strconv_uint64pow10 : DataW Unit) = Lib.tabData .u64 Lib.pow10Tab := by kernel_rfl
theorem tabs_of {W : World} (h : laidMetH Tryd.prog laidL W) : Pow W := by
  rw [MakeChecks.laidMetH_plain _ _ _ (by kernel_rfl)] at h
  have h1 : Lib.VarReads Tryd.prog W "internal/strconv.uint64pow10" Rows.laid_internal_strconv_uint64pow10 := Lib.laidMet.reads h (.tail _ (.tail _ (.head _)))
  rw [pow_eq] at h1
  exact tabIs_of_reads (g := (Tryd.prog.globalNamed "internal/strconv.uint64pow10").getD 0) (t := 126) (e := 107) (n := 20) (by kernel_rfl) (by kernel_rfl) (by kernel_rfl) (by kernel_rfl) (by kernel_rfl) (by kernel_rfl) h1
set_option maxRecDepth 100000 in
theorem lifted (os : Os) (started : os.Started) (H : Type) (enc : TypeId × Value → H) :
    ReturnsInHanded {} Tryd.checked os 9 .any (fun w args => (Rows.dayOrderSpec.pre enc Tryd.prog Tryd.f9 Rows.dayOrderRow.domain false w args ∧ laidMetH Tryd.prog laidL w) ∧ sizedMet enc Tryd.prog Tryd.f9 (OpenSpec.ofChange Rows.dayOrderSpec) false w args)
      (Rows.dayOrderSpec.post enc Tryd.prog Tryd.f9 false true false false) := by
  refine returnsInHanded_of_change_and (C := Tryd.checked) (X := fun w _ => laidMetH Tryd.prog laidL w) (fun _ _ _ hh h => h.of_heap hh) own started (by kernel_rfl) Tryd.func9
    (ChangeSpec.witness_shaped (enc := enc) (C := Tryd.checked) (os := os) (X := fun w _ => laidMetH Tryd.prog laidL w) false (World.laidAll Tryd.prog os laidL) #[.agg #[.int .i64 0, .int .i64 0], .agg #[.int .i64 0, .int .i64 0]] 8 (World.laidAll_os _ _ _)
      (World.shaped_of_ZipB (by kernel_rfl) (by kernel_rfl)) (by kernel_rfl) (by kernel_rfl) (by kernel_rfl)
      (by rw [MakeChecks.laidMetH_plain _ _ _ (by kernel_rfl)]; exact laidMet_laidAll _ (by kernel_rfl) (by kernel_rfl))) ?_
  intro W base args ds gs before hval0 hW _ hsz0 hL _
  have hT : Pow W := tabs_of hL
  have hsz : (DataW.weightsEach Tryd.prog (Tryd.f9.params.toList ++ Rows.dayOrderSpec.plain.varTypes Tryd.prog) (ds ++ gs)).all (· ≤ reachBytes) = true := hsz0
  have hval : ∀ (j : Nat) t v, Tryd.f9.params[j]? = some t → args[j]? = some v → Value.okWide Tryd.prog W .any base t v := hval0
  have hW' := hW
  obtain ⟨p, q, hA0, hV, rfl, hfz, hnd⟩ := hW
  have hA : DataW.TrodAll enc Tryd.prog W 0 (fun _ => true) true Tryd.f9.params.toList args.toList ds p := hA0
  rw [Tryd.params9] at hA hval hsz
  have hlt0 : ∀ x ∈ p, x.block < W.heap.size := fun x hx => hW'.lt x (by simp [hx])
  obtain ⟨v0, vs0, d0, ds0, p0, q0, hargs, rfl, rfl, h0, r0⟩ := trodAll_cons hA
  obtain ⟨v1, vs1, d1, ds1, p1, q1, rfl, rfl, rfl, h1, r1⟩ := trodAll_cons r0
  obtain ⟨rfl, rfl, rfl⟩ := trodAll_nil r1
  obtain rfl : args = #[v0, v1] := by cases args; simp_all
  obtain ⟨rfl, rfl⟩ := trodVars_none hV
  obtain ⟨sa, na, rfl, wsa, wna⟩ := open_day (hval 0 23 v0 rfl rfl) h0
  obtain ⟨sb, nb, rfl, wsb, wnb⟩ := open_day (hval 1 23 v1 rfl rfl) h1
  clear hA0 hval0
  refine (walk _ _ _ _ _ hT).mono fun e W' ⟨he, hb⟩ => ⟨_, he, ?_⟩
  exact law_post laidOut (of_decide_eq_true (by kernel_rfl)) rfl rfl Tryd.underlying4 (fun ds hl => by
    match ds, hl with
    | [_, _], _ => rfl) hW' hb

theorem proved : Rows.DayOrderSaid :=
  OpenClaim.holds_of_wide 9 Tryd.f9 rfl rfl rfl rfl rfl rfl rfl ⟨rfl, rfl, rfl, rfl, rfl⟩ rfl rfl rfl rfl rfl (by kernel_rfl) Tryd.func9 (by kernel_rfl)
    (of_decide_eq_true (by kernel_rfl)) (by unfold Func.isWrapper; first | (rw [if_pos (by decide +kernel)]; kernel_rfl) | (rw [if_neg (by decide +kernel)]; exact ⟨rfl, rfl⟩))
    (fun os started H enc _ => lifted os started H enc)
theorem card : Rows.DayOrderCardSaid :=
  Claim7.holds_tied_plain_at .later [] [.data, .data, .data, .data, .pinned] true (true, "9dad1e08f6c8d2027cebc61acc31d6ef1a689ef6c3038fbfe70cdb5ff32d60b7") false proved (fun _ h => by cases h) (by kernel_rfl) (fun _ h => by cases h) dayOrder_row_tie rfl ⟨rfl, rfl⟩ (by kernel_rfl) rfl
    (fun f fn hf hfn => by
      obtain rfl : f = 9 := Option.some.inj ((show Tryd.prog.funcNamed "provost/provostlaw12.DayOrder" = some 9 by kernel_rfl).symm.trans hf) |>.symm
      obtain rfl : fn = Tryd.f9 := (Option.some.inj (Tryd.func9.symm.trans hfn)).symm
      exact ⟨by kernel_rfl, fun j t ht => by
        rw [Tryd.params9] at ht
        have hm := Array.mem_of_getElem? ht
        have hall : (Tryd.f9.params.toList.all fun u => !Tryd.prog.wantsStandIn u) = true := by kernel_rfl
        rw [Tryd.params9] at hall
        exact (show Tryd.prog.wantsStandIn t = false by simpa using List.all_eq_true.1 hall t (by simpa using hm))⟩)
    (by kernel_rfl)
end Go.Proofs.YtdaadoiedaplaaaDoor.dayOrder

