/- text.Where where it answers an error; every place of a text is a code point's beginning or none. Conditions: Go's two tables of utf8. -/
import Derived.Test.YtllfgkfcbicnlaaDoorWhere
namespace Go.Proofs.YtllfgkfcbicnlaaDoor
open Go.RowKit Go.Lib
theorem Chain.locate {B : Nat → Nat} {n m : Nat} {P X : Nat → Nat} (h : Chain B n m P X) {a : Nat} (ha : a < n) : ∃ k, k < m ∧ P k ≤ a ∧ a < P (k + 1) := by
  have key : ∀ k, k ≤ m → a < P k → ∃ j, j < m ∧ P j ≤ a ∧ a < P (j + 1) := by
    intro k
    induction k with
    | zero => intro _ h2; rw [h.1] at h2; omega
    | succ k ih =>
      intro h1 h2
      by_cases g : P k ≤ a
      · exact ⟨k, by omega, g, h2⟩
      · exact ih (by omega) (by omega)
  exact key m (Nat.le_refl _) (by rw [h.2.1]; exact ha)
theorem At.inner {B : Nat → Nat} {n i p k : Nat} (h : At B n i p k) {t : Nat} (h1 : 1 ≤ t) (h2 : t < k) : B (i + t) / 64 = 2 := by
  rcases h with ⟨rfl, h⟩ | ⟨rfl, h⟩ | ⟨rfl, h⟩ | ⟨rfl, h⟩
  · omega
  · obtain rfl : t = 1 := by omega
    omega
  · rcases (by omega : t = 1 ∨ t = 2) with rfl | rfl <;> omega
  · rcases (by omega : t = 1 ∨ t = 2 ∨ t = 3) with rfl | rfl | rfl <;> omega
theorem Chain.place {s : ByteArray} {m : Nat} {P X : Nat → Nat} (h : Chain (byt s) s.size m P X) {a : Nat} (ha : a ≤ s.size) :
    (∃ k, k ≤ m ∧ a = P k) ∨ (a < s.size ∧ Lib.runeStart (byt s a : Nat) = false) := by
  rcases Nat.lt_or_ge a s.size with g | g
  · obtain ⟨k, h1, h2, h3⟩ := h.locate g
    by_cases e : a = P k
    · exact .inl ⟨k, by omega, e⟩
    · right
      refine ⟨g, ?_⟩
      have := (h.2.2 k h1).2.inner (t := a - P k) (by omega) (by omega)
      rw [show P k + (a - P k) = a by omega] at this
      unfold Lib.runeStart
      rw [show ((byt s a : Nat) : Int) / 64 = 2 by omega]
      rfl
  · exact .inl ⟨m, Nat.le_refl _, by rw [h.2.1]; omega⟩
theorem where_check (s : ByteArray) (a : Int) (w : World) (hs : s.size ≤ maxLen) (hT : Tabs w) (c : Nat) (hc : checkV s = c) (h0 : c ≠ 0) :
    Calls Tryd.prog 13 #[.string s, .int .i64 a] w fun e w' => e = .returned (.tuple #[.int .i64 0, .int .i64 0, .int .i64 c]) ∧ Below w.heap.size w w' := by
  have hcc := fun W (h : Tabs W) => check_any s W hs h
  rw [hc] at hcc
  clear hc
  have hb0 : Below w.heap.size w (w.alloc (.cells #[.string s] 9)) := (Below.refl _ _).alloc (Nat.le_refl _) _
  have hT0 := hT.below hb0
  have hne : ((c : Int) == 0) = false := by rw [beq_eq_false_iff_ne]; omega
  go_enter Tryd.func13, Tryd.ntmps13
  go_wp2_with fail
  refine (hcc _ hT0).mono ?_
  rintro e w1 ⟨rfl, hb1⟩
  go_wp2
  go_ret3
  exact ⟨rfl, hb0.trans (hb1.mono hb0.size)⟩
theorem where_out (s : ByteArray) (a : Int) (w : World) (hs : s.size ≤ maxLen) (hT : Tabs w) (hc : checkV s = 0)
    (h : a < 0 ∨ (s.size : Int) < a ∨ ∃ k : Nat, a = k ∧ k < s.size ∧ Lib.runeStart (byt s k : Nat) = false) :
    Calls Tryd.prog 13 #[.string s, .int .i64 a] w fun e w' => e = .returned (.tuple #[.int .i64 0, .int .i64 0, .int .i64 2]) ∧ Below w.heap.size w w' := by
  have hcc := fun W (h : Tabs W) => check_any s W hs h
  rw [hc] at hcc
  clear hc
  have hb0 : Below w.heap.size w (w.alloc (.cells #[.string s] 9)) := (Below.refl _ _).alloc (Nat.le_refl _) _
  have hT0 := hT.below hb0
  have hsm := hs
  unfold maxLen at hsm
  have start : ∀ w1, Below (w.alloc (.cells #[.string s] 9)).heap.size (w.alloc (.cells #[.string s] 9)) w1 → w1.cell? ⟨w.heap.size, 0, none⟩ = some (.string s) ∧ Below w.heap.size w w1 :=
    fun w1 hb1 => ⟨(hb1.cell (p := ⟨w.heap.size, 0, none⟩) (by simp)).trans (World.cell?_alloc_at _ _ _ _ rfl), hb0.trans (hb1.mono hb0.size)⟩
  by_cases h0 : a < 0
  · have hd : decide (a < 0) = true := by simpa using h0
    clear h
    go_enter Tryd.func13, Tryd.ntmps13
    go_wp2_with fail
    refine (hcc _ hT0).mono ?_
    rintro e w1 ⟨rfl, hb1⟩
    obtain ⟨c1, hB1⟩ := start w1 hb1
    go_wp2
    go_ret3
    exact ⟨rfl, hB1⟩
  · obtain ⟨k, rfl⟩ : ∃ k : Nat, a = (k : Int) := ⟨a.toNat, by omega⟩
    by_cases h1 : s.size < k
    · have h2 : (s.size : Int) < k := by omega
      clear h
      go_enter Tryd.func13, Tryd.ntmps13
      go_wp2_with fail
      refine (hcc _ hT0).mono ?_
      rintro e w1 ⟨rfl, hb1⟩
      obtain ⟨c1, hB1⟩ := start w1 hb1
      go_wp2
      go_ret3
      exact ⟨rfl, hB1⟩
    · obtain ⟨g1, g2⟩ : k < s.size ∧ Lib.runeStart (byt s k : Nat) = false := by
        rcases h with h | h | ⟨k', e, h2⟩
        · omega
        · omega
        · obtain rfl : k' = k := by omega
          exact h2
      have h2 : ¬ (s.size : Int) < k := by omega
      have h3 : (k : Int) < s.size := by omega
      rw [byt_get s k g1] at g2
      clear h
      go_enter Tryd.func13, Tryd.ntmps13
      go_wp2_with fail
      refine (hcc _ hT0).mono ?_
      rintro e w1 ⟨rfl, hb1⟩
      obtain ⟨c1, hB1⟩ := start w1 hb1
      go_wp2_with fail
      refine (Tryd.utf8_RuneStart (s[k].toNat : Nat) w1 (by omega) (by have := UInt8.toNat_lt s[k]; omega)).mono ?_
      rintro e w2 ⟨rfl, rfl⟩
      rw [g2]
      go_wp2
      go_ret3
      exact ⟨rfl, hB1⟩
end Go.Proofs.YtllfgkfcbicnlaaDoor
