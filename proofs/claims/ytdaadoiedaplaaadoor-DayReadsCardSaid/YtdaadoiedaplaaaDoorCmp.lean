/- Contract of the program's Compare. Conditions: none. -/
import Derived.Test.YtdaadoiedaplaaaDoorDate2
import Derived.Test.YtdaadoiedaplaaaDoorShelf
import Derived.Deep.RegionHeld3
namespace Go.Proofs.YtdaadoiedaplaaaDoor
open Go.RowKit
def cmp2 (a b : Int) : Int := if a < b then -1 else if b < a then 1 else 0
theorem cmp2_eq (a b : Int) : Lib.compareInt a b = cmp2 a b := by
  unfold Lib.compareInt cmp2
  first | rfl | (repeat' split <;> first | rfl | omega)
def cmpD (s n t m : Int) : Int := if cmp2 s t = 0 then cmp2 n m else cmp2 s t
theorem or_any (a b : Int) (g : Nat) (w : World) (h0 : w.cell? ⟨g, 0, none⟩ = some (.int .i64 a)) (h1 : w.cell? ⟨g, 1, none⟩ = some (.int .i64 b)) :
    Calls Tryd.prog 38 #[.slice (some ⟨g, 0, none⟩) 2 2] w fun e w' => e = .returned (.int .i64 (if a = 0 then b else a)) ∧ w = w' := by
  obtain ⟨V, hV⟩ : ∃ V, (if a = 0 then b else a) = V := ⟨_, rfl⟩
  rw [hV]
  have HV := Lib.hid hV
  clear hV
  go_enter Tryd.func38, Tryd.ntmps38
  go_wp2
  go_loop [8] (fun i => i = .int .i64 0 ∨ (i = .int .i64 1 ∧ a = 0) ∨ (i = .int .i64 2 ∧ a = 0 ∧ b = 0)) (fun i => 2 - (intOf i).toNat)
  case atStart => exact .inl rfl
  case round =>
    rcases hrel with rfl | ⟨rfl, ha⟩ | ⟨rfl, ha, hb⟩
    · by_cases ha : a = 0
      · have hV : b = V := by rw [← HV.out, if_pos ha]
        have HB := Lib.hid hV
        subst ha
        clear hV HV
        go_wp2
        go_round
        case rel => exact .inr (.inl ⟨rfl, trivial⟩)
        case measure => decide
      · have hV : a = V := by rw [← HV.out, if_neg ha]
        have haa : (a != 0) = true := by simpa using ha
        have HB := Lib.hid hV
        clear hV HV
        go_wp2
        go_ret
        exact ⟨ret_int HB.out, rfl⟩
    · have hV : b = V := by rw [← HV.out, if_pos ha]
      have HB := Lib.hid hV
      clear hV HV
      by_cases hb : b = 0
      · subst hb
        go_wp2
        go_round
        case rel => exact .inr (.inr ⟨rfl, ha, trivial⟩)
        case measure => decide
      · have hbb : (b != 0) = true := by simpa using hb
        clear ha
        go_wp2
        go_ret
        exact ⟨ret_int HB.out, rfl⟩
    · have hV : (0 : Int) = V := by rw [← HV.out, if_pos ha, hb]
      have HB := Lib.hid hV
      clear hV HV ha hb
      go_wp2
      go_ret
      exact ⟨ret_int HB.out, rfl⟩
set_option maxHeartbeats 2000000 in
theorem compare_any (s n t m : Int) (w : World) : Calls Tryd.prog 18 #[.agg #[.int .i64 s, .int .i64 n], .agg #[.int .i64 t, .int .i64 m]] w fun e w' => e = .returned (.int .i64 (cmpD s n t m)) ∧ Below w.heap.size w w' := by
  have c1 := fun W => Tryd.cmp_Compare_int_f39 s t W
  have c2 := fun W => Tryd.cmp_Compare_int n m W
  rw [cmp2_eq] at c1 c2
  have hV : cmpD s n t m = if cmp2 s t = 0 then cmp2 n m else cmp2 s t := rfl
  generalize cmp2 s t = p at *
  generalize cmp2 n m = q at *
  obtain ⟨V, hV2⟩ : ∃ V, (if p = 0 then q else p) = V := ⟨_, rfl⟩
  have hor : ∀ (g : Nat) (W : World), W.cell? ⟨g, 0, none⟩ = some (.int .i64 p) → W.cell? ⟨g, 1, none⟩ = some (.int .i64 q) → Calls Tryd.prog 38 #[.slice (some ⟨g, 0, none⟩) 2 2] W fun e w' => e = .returned (.int .i64 V) ∧ W = w' := fun g W h0 h1 => by
    have := or_any p q g W h0 h1
    rw [hV2] at this
    exact this
  rw [hV2] at hV
  have HV := Lib.hid hV
  clear hV hV2
  have hB : Below w.heap.size w ((w.alloc (.cells #[.int .i64 s, .int .i64 n] 23)).alloc (.cells #[.int .i64 t, .int .i64 m] 23)) := ((Below.refl _ _).alloc (Nat.le_refl _) _).alloc (by simp) _
  obtain ⟨W0, hW0⟩ : ∃ W0, (w.alloc (.cells #[.int .i64 s, .int .i64 n] 23)).alloc (.cells #[.int .i64 t, .int .i64 m] 23) = W0 := ⟨_, rfl⟩
  have e0 : W0.cell? ⟨w.heap.size, 0, none⟩ = some (.int .i64 s) := by subst hW0; rw [World.cell?_alloc_past _ _ _ (by simp), World.cell?_alloc_at _ _ _ _ rfl]; rfl
  have e1 : W0.cell? ⟨w.heap.size, 1, none⟩ = some (.int .i64 n) := by subst hW0; rw [World.cell?_alloc_past _ _ _ (by simp), World.cell?_alloc_at _ _ _ _ rfl]; rfl
  have e2 : W0.cell? ⟨w.heap.size + 1, 0, none⟩ = some (.int .i64 t) := by subst hW0; rw [World.cell?_alloc_at _ _ _ _ (by simp)]; rfl
  have e3 : W0.cell? ⟨w.heap.size + 1, 1, none⟩ = some (.int .i64 m) := by subst hW0; rw [World.cell?_alloc_at _ _ _ _ (by simp)]; rfl
  have hz : w.heap.size + 2 ≤ W0.heap.size := by subst hW0; simp
  go_enter Tryd.func18, Tryd.ntmps18
  rw [hW0] at hB
  go_wp2
  clear hW0
  have S : ∀ {W : World}, Below W0.heap.size W0 W → W.cell? ⟨w.heap.size, 0, none⟩ = some (.int .i64 s) ∧ W.cell? ⟨w.heap.size, 1, none⟩ = some (.int .i64 n) ∧ W.cell? ⟨w.heap.size + 1, 0, none⟩ = some (.int .i64 t) ∧ W.cell? ⟨w.heap.size + 1, 1, none⟩ = some (.int .i64 m) :=
    fun h => ⟨(h.cell (p := ⟨w.heap.size, 0, none⟩) (by show w.heap.size < _; omega)).trans e0, (h.cell (p := ⟨w.heap.size, 1, none⟩) (by show w.heap.size < _; omega)).trans e1, (h.cell (p := ⟨w.heap.size + 1, 0, none⟩) (by show w.heap.size + 1 < _; omega)).trans e2, (h.cell (p := ⟨w.heap.size + 1, 1, none⟩) (by show w.heap.size + 1 < _; omega)).trans e3⟩
  clear e0 e1 e2 e3
  go_region_held3 (fun W => W.cell? ⟨w.heap.size, 0, none⟩ = some (.int .i64 s) ∧ W.cell? ⟨w.heap.size, 1, none⟩ = some (.int .i64 n) ∧ W.cell? ⟨w.heap.size + 1, 0, none⟩ = some (.int .i64 t) ∧ W.cell? ⟨w.heap.size + 1, 1, none⟩ = some (.int .i64 m))
    (exact S (by repeat (first | exact Below.refl W0.heap.size _ | refine Below.alloc ?_ (by first | omega | (simp; done) | (simp; omega)) _ | refine Below.drew ?_)))
    (first
      | (go_at_call 39; (with_reducible refine (c1 _).mono ?_); rintro e X ⟨rfl, rfl⟩)
      | (go_at_call 40; (with_reducible refine (c2 _).mono ?_); rintro e X ⟨rfl, rfl⟩)
      | (go_at_call 38; (refine (hor _ _ (by first | exact World.cell?_alloc_at _ _ _ _ rfl | (simp [World.cell?_alloc_new])) (by first | exact World.cell?_alloc_at _ _ _ _ rfl | (simp [World.cell?_alloc_new]))).mono ?_); rintro e X ⟨rfl, rfl⟩))
  all_goals
    go_wp2
    go_ret
    exact ⟨ret_int (by rw [HV.out]), hB.trans ((by repeat (first | exact Below.refl W0.heap.size _ | refine Below.alloc ?_ (by first | omega | (simp; done) | (simp; omega)) _ | refine Below.drew ?_) : Below W0.heap.size W0 _).mono hB.size)⟩
end Go.Proofs.YtdaadoiedaplaaaDoor
