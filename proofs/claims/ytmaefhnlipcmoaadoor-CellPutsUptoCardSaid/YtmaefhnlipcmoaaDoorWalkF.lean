/- cell.behind's closure at a cell in which nothing stands, and where none may: what it answers, what it leaves (its ways put together). Conditions: lengths within the model's; Go's two tables of utf8. -/
import Derived.Test.YtmaefhnlipcmoaaDoorWalkK0
import Derived.Test.YtmaefhnlipcmoaaDoorWalkK1
import Derived.Test.YtmaefhnlipcmoaaDoorWalkK2
import Derived.Test.YtmaefhnlipcmoaaDoorWalkK3
import Derived.Test.YtmaefhnlipcmoaaDoorWalkK4
import Derived.Test.YtmaefhnlipcmoaaDoorWalkK5
import Derived.Test.YtmaefhnlipcmoaaDoorWalkK6
import Derived.Test.YtmaefhnlipcmoaaDoorWalkK7
namespace Go.Proofs.YtmaefhnlipcmoaaDoor
open Go.RowKit
variable {w0 w w' : World} {A : Option Addr} {cap : Nat} {xs : List Cel} {bv ba bw be bE : Nat} {E : List Int}
theorem flat_0 {nm tx : ByteArray} {num many : Int} {a d : Nat} {B : Nat} (hS : St w0 w A cap xs bv ba bw be bE E) (hx : Rd w0 B A (cv xs)) (hB : B ≤ w0.heap.size) (hn : xs.length ≤ 1000000) (_hT : Tabs w0) (hd : d ≤ 16) (h : xs[a]? = some ⟨0, nm, tx, num, many⟩) (_hs : tx.size ≤ maxLen) :
    Calls Tryd.prog 54 #[.int .i64 a, .int .i64 d, .pointer (some ⟨bv, 0, none⟩), .pointer (some ⟨ba, 0, none⟩), .pointer (some ⟨bw, 0, none⟩), .pointer (some ⟨be, 0, none⟩)] w fun e w' => WalkPost w0 w A cap xs bv ba bw be bE E d a e w' := by
  have none' : bh xs d a = none → (∀ e w', (e = .returned (.int .i64 (-1)) ∧ w.grownBy w' (some bE) ∧ ∃ E', St w0 w' A cap xs bv ba bw be bE E' ∧ Ends xs d a E E') → WalkPost w0 w A cap xs bv ba bw be bE E d a e w') := by
    intro hb e w' g
    unfold WalkPost
    rw [hb]
    exact g
  have some' : bh xs d a = some (a + 1) → (∀ e w', (e = .returned (.int .i64 ((a : Int) + 1)) ∧ w.grownBy w' (some bE) ∧ ∃ E', St w0 w' A cap xs bv ba bw be bE E' ∧ Ends xs d a E E') → WalkPost w0 w A cap xs bv ba bw be bE E d a e w') := by
    intro hb e w' g
    unfold WalkPost
    rw [hb]
    exact g
  cases hF : decide (tx = e0) with
  | false =>
    have hb : bh xs d a = none := bh_bad h (by simp [oneC, (decide_eq_false_iff_not.1 hF)]) d
    exact (walk0_F hS hx hB hn h hF hb).mono (none' hb)
  | true =>
    cases hG : decide (num = 0) with
    | false =>
      have hb : bh xs d a = none := bh_bad h (by simp [oneC, (decide_eq_true_iff.1 hF), (decide_eq_false_iff_not.1 hG)]) d
      exact (walk0_G hS hx hB hn h hF hG hb).mono (none' hb)
    | true =>
      rcases Int.lt_trichotomy many 0 with hm | hm | hm
      · have hm2 : ¬ many = 0 := by omega
        have hb : bh xs d a = none := bh_bad h (by simp [oneC, hm2]) d
        exact (walk0_L hS hx hB hn h hF hG hm hb).mono (none' hb)
      · have hb : bh xs d a = some (a + 1) := bh_leaf h (by simp [oneC, (decide_eq_true_iff.1 hF), (decide_eq_true_iff.1 hG), hm]) (by simp [nest]) d
        exact (walk0_leaf hS hx hB hn h hd hF hG hm hb).mono (some' hb)
      · have hm2 : ¬ many = 0 := by omega
        have hb : bh xs d a = none := bh_bad h (by simp [oneC, hm2]) d
        exact (walk0_M hS hx hB hn h hF hG hm hb).mono (none' hb)
theorem flat_1 {nm tx : ByteArray} {num many : Int} {a d : Nat} {B : Nat} (hS : St w0 w A cap xs bv ba bw be bE E) (hx : Rd w0 B A (cv xs)) (hB : B ≤ w0.heap.size) (hn : xs.length ≤ 1000000) (_hT : Tabs w0) (hd : d ≤ 16) (h : xs[a]? = some ⟨1, nm, tx, num, many⟩) (_hs : tx.size ≤ maxLen) :
    Calls Tryd.prog 54 #[.int .i64 a, .int .i64 d, .pointer (some ⟨bv, 0, none⟩), .pointer (some ⟨ba, 0, none⟩), .pointer (some ⟨bw, 0, none⟩), .pointer (some ⟨be, 0, none⟩)] w fun e w' => WalkPost w0 w A cap xs bv ba bw be bE E d a e w' := by
  have none' : bh xs d a = none → (∀ e w', (e = .returned (.int .i64 (-1)) ∧ w.grownBy w' (some bE) ∧ ∃ E', St w0 w' A cap xs bv ba bw be bE E' ∧ Ends xs d a E E') → WalkPost w0 w A cap xs bv ba bw be bE E d a e w') := by
    intro hb e w' g
    unfold WalkPost
    rw [hb]
    exact g
  have some' : bh xs d a = some (a + 1) → (∀ e w', (e = .returned (.int .i64 ((a : Int) + 1)) ∧ w.grownBy w' (some bE) ∧ ∃ E', St w0 w' A cap xs bv ba bw be bE E' ∧ Ends xs d a E E') → WalkPost w0 w A cap xs bv ba bw be bE E d a e w') := by
    intro hb e w' g
    unfold WalkPost
    rw [hb]
    exact g
  cases hF : decide (tx = e0) with
  | false =>
    have hb : bh xs d a = none := bh_bad h (by simp [oneC, (decide_eq_false_iff_not.1 hF)]) d
    exact (walk1_F hS hx hB hn h hF hb).mono (none' hb)
  | true =>
    cases hG : (decide (num = 0) || decide (num = 1)) with
    | false =>
      have hb : bh xs d a = none := bh_bad h (by simp [oneC, (decide_eq_true_iff.1 hF), hG]) d
      exact (walk1_G hS hx hB hn h hF hG hb).mono (none' hb)
    | true =>
      rcases Int.lt_trichotomy many 0 with hm | hm | hm
      · have hm2 : ¬ many = 0 := by omega
        have hb : bh xs d a = none := bh_bad h (by simp [oneC, hm2]) d
        exact (walk1_L hS hx hB hn h hF hG hm hb).mono (none' hb)
      · have hb : bh xs d a = some (a + 1) := bh_leaf h (by simp [oneC, (decide_eq_true_iff.1 hF), hG, hm]) (by simp [nest]) d
        exact (walk1_leaf hS hx hB hn h hd hF hG hm hb).mono (some' hb)
      · have hm2 : ¬ many = 0 := by omega
        have hb : bh xs d a = none := bh_bad h (by simp [oneC, hm2]) d
        exact (walk1_M hS hx hB hn h hF hG hm hb).mono (none' hb)
theorem flat_2 {nm tx : ByteArray} {num many : Int} {a d : Nat} {B : Nat} (hS : St w0 w A cap xs bv ba bw be bE E) (hx : Rd w0 B A (cv xs)) (hB : B ≤ w0.heap.size) (hn : xs.length ≤ 1000000) (_hT : Tabs w0) (hd : d ≤ 16) (h : xs[a]? = some ⟨2, nm, tx, num, many⟩) (_hs : tx.size ≤ maxLen) :
    Calls Tryd.prog 54 #[.int .i64 a, .int .i64 d, .pointer (some ⟨bv, 0, none⟩), .pointer (some ⟨ba, 0, none⟩), .pointer (some ⟨bw, 0, none⟩), .pointer (some ⟨be, 0, none⟩)] w fun e w' => WalkPost w0 w A cap xs bv ba bw be bE E d a e w' := by
  have none' : bh xs d a = none → (∀ e w', (e = .returned (.int .i64 (-1)) ∧ w.grownBy w' (some bE) ∧ ∃ E', St w0 w' A cap xs bv ba bw be bE E' ∧ Ends xs d a E E') → WalkPost w0 w A cap xs bv ba bw be bE E d a e w') := by
    intro hb e w' g
    unfold WalkPost
    rw [hb]
    exact g
  have some' : bh xs d a = some (a + 1) → (∀ e w', (e = .returned (.int .i64 ((a : Int) + 1)) ∧ w.grownBy w' (some bE) ∧ ∃ E', St w0 w' A cap xs bv ba bw be bE E' ∧ Ends xs d a E E') → WalkPost w0 w A cap xs bv ba bw be bE E d a e w') := by
    intro hb e w' g
    unfold WalkPost
    rw [hb]
    exact g
  cases hF : decide (tx = e0) with
  | false =>
    have hb : bh xs d a = none := bh_bad h (by simp [oneC, (decide_eq_false_iff_not.1 hF)]) d
    exact (walk2_F hS hx hB hn h hF hb).mono (none' hb)
  | true =>
    rcases Int.lt_trichotomy many 0 with hm | hm | hm
    · have hm2 : ¬ many = 0 := by omega
      have hb : bh xs d a = none := bh_bad h (by simp [oneC, hm2]) d
      exact (walk2_L hS hx hB hn h hF hm hb).mono (none' hb)
    · have hb : bh xs d a = some (a + 1) := bh_leaf h (by simp [oneC, (decide_eq_true_iff.1 hF), hm]) (by simp [nest]) d
      exact (walk2_leaf hS hx hB hn h hd hF hm hb).mono (some' hb)
    · have hm2 : ¬ many = 0 := by omega
      have hb : bh xs d a = none := bh_bad h (by simp [oneC, hm2]) d
      exact (walk2_M hS hx hB hn h hF hm hb).mono (none' hb)
theorem flat_3 {nm tx : ByteArray} {num many : Int} {a d : Nat} {B : Nat} (hS : St w0 w A cap xs bv ba bw be bE E) (hx : Rd w0 B A (cv xs)) (hB : B ≤ w0.heap.size) (hn : xs.length ≤ 1000000) (hT : Tabs w0) (hd : d ≤ 16) (h : xs[a]? = some ⟨3, nm, tx, num, many⟩) (hs : tx.size ≤ maxLen) :
    Calls Tryd.prog 54 #[.int .i64 a, .int .i64 d, .pointer (some ⟨bv, 0, none⟩), .pointer (some ⟨ba, 0, none⟩), .pointer (some ⟨bw, 0, none⟩), .pointer (some ⟨be, 0, none⟩)] w fun e w' => WalkPost w0 w A cap xs bv ba bw be bE E d a e w' := by
  have none' : bh xs d a = none → (∀ e w', (e = .returned (.int .i64 (-1)) ∧ w.grownBy w' (some bE) ∧ ∃ E', St w0 w' A cap xs bv ba bw be bE E' ∧ Ends xs d a E E') → WalkPost w0 w A cap xs bv ba bw be bE E d a e w') := by
    intro hb e w' g
    unfold WalkPost
    rw [hb]
    exact g
  have some' : bh xs d a = some (a + 1) → (∀ e w', (e = .returned (.int .i64 ((a : Int) + 1)) ∧ w.grownBy w' (some bE) ∧ ∃ E', St w0 w' A cap xs bv ba bw be bE E' ∧ Ends xs d a E E') → WalkPost w0 w A cap xs bv ba bw be bE E d a e w') := by
    intro hb e w' g
    unfold WalkPost
    rw [hb]
    exact g
  cases hF : textOk tx with
  | false =>
    have hb : bh xs d a = none := bh_bad h (by simp [oneC, hF]) d
    exact (walk3_F hS hx hB hn h hs hT hF hb).mono (none' hb)
  | true =>
    cases hG : decide (num = 0) with
    | false =>
      have hb : bh xs d a = none := bh_bad h (by simp [oneC, hF, (decide_eq_false_iff_not.1 hG)]) d
      exact (walk3_G hS hx hB hn h hs hT hF hG hb).mono (none' hb)
    | true =>
      rcases Int.lt_trichotomy many 0 with hm | hm | hm
      · have hm2 : ¬ many = 0 := by omega
        have hb : bh xs d a = none := bh_bad h (by simp [oneC, hm2]) d
        exact (walk3_L hS hx hB hn h hs hT hF hG hm hb).mono (none' hb)
      · have hb : bh xs d a = some (a + 1) := bh_leaf h (by simp [oneC, hF, (decide_eq_true_iff.1 hG), hm]) (by simp [nest]) d
        exact (walk3_leaf hS hx hB hn h hd hs hT hF hG hm hb).mono (some' hb)
      · have hm2 : ¬ many = 0 := by omega
        have hb : bh xs d a = none := bh_bad h (by simp [oneC, hm2]) d
        exact (walk3_M hS hx hB hn h hs hT hF hG hm hb).mono (none' hb)
theorem flat_4 {nm tx : ByteArray} {num many : Int} {a d : Nat} {B : Nat} (hS : St w0 w A cap xs bv ba bw be bE E) (hx : Rd w0 B A (cv xs)) (hB : B ≤ w0.heap.size) (hn : xs.length ≤ 1000000) (_hT : Tabs w0) (hd : d ≤ 16) (h : xs[a]? = some ⟨4, nm, tx, num, many⟩) (hs : tx.size ≤ maxLen) :
    Calls Tryd.prog 54 #[.int .i64 a, .int .i64 d, .pointer (some ⟨bv, 0, none⟩), .pointer (some ⟨ba, 0, none⟩), .pointer (some ⟨bw, 0, none⟩), .pointer (some ⟨be, 0, none⟩)] w fun e w' => WalkPost w0 w A cap xs bv ba bw be bE E d a e w' := by
  have none' : bh xs d a = none → (∀ e w', (e = .returned (.int .i64 (-1)) ∧ w.grownBy w' (some bE) ∧ ∃ E', St w0 w' A cap xs bv ba bw be bE E' ∧ Ends xs d a E E') → WalkPost w0 w A cap xs bv ba bw be bE E d a e w') := by
    intro hb e w' g
    unfold WalkPost
    rw [hb]
    exact g
  have some' : bh xs d a = some (a + 1) → (∀ e w', (e = .returned (.int .i64 ((a : Int) + 1)) ∧ w.grownBy w' (some bE) ∧ ∃ E', St w0 w' A cap xs bv ba bw be bE E' ∧ Ends xs d a E E') → WalkPost w0 w A cap xs bv ba bw be bE E d a e w') := by
    intro hb e w' g
    unfold WalkPost
    rw [hb]
    exact g
  cases hF : nameOk tx with
  | false =>
    have hb : bh xs d a = none := bh_bad h (by simp [oneC, hF]) d
    exact (walk4_F hS hx hB hn h hs hF hb).mono (none' hb)
  | true =>
    cases hG : decide (num = 0) with
    | false =>
      have hb : bh xs d a = none := bh_bad h (by simp [oneC, hF, (decide_eq_false_iff_not.1 hG)]) d
      exact (walk4_G hS hx hB hn h hs hF hG hb).mono (none' hb)
    | true =>
      rcases Int.lt_trichotomy many 0 with hm | hm | hm
      · have hm2 : ¬ many = 0 := by omega
        have hb : bh xs d a = none := bh_bad h (by simp [oneC, hm2]) d
        exact (walk4_L hS hx hB hn h hs hF hG hm hb).mono (none' hb)
      · have hb : bh xs d a = some (a + 1) := bh_leaf h (by simp [oneC, hF, (decide_eq_true_iff.1 hG), hm]) (by simp [nest]) d
        exact (walk4_leaf hS hx hB hn h hd hs hF hG hm hb).mono (some' hb)
      · have hm2 : ¬ many = 0 := by omega
        have hb : bh xs d a = none := bh_bad h (by simp [oneC, hm2]) d
        exact (walk4_M hS hx hB hn h hs hF hG hm hb).mono (none' hb)
theorem flat_5 {nm tx : ByteArray} {num many : Int} {a d : Nat} {B : Nat} (hS : St w0 w A cap xs bv ba bw be bE E) (hx : Rd w0 B A (cv xs)) (hB : B ≤ w0.heap.size) (hn : xs.length ≤ 1000000) (_hT : Tabs w0) (hd : d ≤ 16) (h : xs[a]? = some ⟨5, nm, tx, num, many⟩) (hs : tx.size ≤ maxLen) :
    Calls Tryd.prog 54 #[.int .i64 a, .int .i64 d, .pointer (some ⟨bv, 0, none⟩), .pointer (some ⟨ba, 0, none⟩), .pointer (some ⟨bw, 0, none⟩), .pointer (some ⟨be, 0, none⟩)] w fun e w' => WalkPost w0 w A cap xs bv ba bw be bE E d a e w' := by
  have none' : bh xs d a = none → (∀ e w', (e = .returned (.int .i64 (-1)) ∧ w.grownBy w' (some bE) ∧ ∃ E', St w0 w' A cap xs bv ba bw be bE E' ∧ Ends xs d a E E') → WalkPost w0 w A cap xs bv ba bw be bE E d a e w') := by
    intro hb e w' g
    unfold WalkPost
    rw [hb]
    exact g
  have some' : bh xs d a = some (a + 1) → (∀ e w', (e = .returned (.int .i64 ((a : Int) + 1)) ∧ w.grownBy w' (some bE) ∧ ∃ E', St w0 w' A cap xs bv ba bw be bE E' ∧ Ends xs d a E E') → WalkPost w0 w A cap xs bv ba bw be bE E d a e w') := by
    intro hb e w' g
    unfold WalkPost
    rw [hb]
    exact g
  cases hF : nameOk tx with
  | false =>
    have hb : bh xs d a = none := bh_bad h (by simp [oneC, hF]) d
    exact (walk5_F hS hx hB hn h hs hF hb).mono (none' hb)
  | true =>
    cases hG : decide (num = 0) with
    | false =>
      have hb : bh xs d a = none := bh_bad h (by simp [oneC, hF, (decide_eq_false_iff_not.1 hG)]) d
      exact (walk5_G hS hx hB hn h hs hF hG hb).mono (none' hb)
    | true =>
      rcases Int.lt_trichotomy many 0 with hm | hm | hm
      · have hm2 : ¬ many = 0 := by omega
        have hb : bh xs d a = none := bh_bad h (by simp [oneC, hm2]) d
        exact (walk5_L hS hx hB hn h hs hF hG hm hb).mono (none' hb)
      · have hb : bh xs d a = some (a + 1) := bh_leaf h (by simp [oneC, hF, (decide_eq_true_iff.1 hG), hm]) (by simp [nest]) d
        exact (walk5_leaf hS hx hB hn h hd hs hF hG hm hb).mono (some' hb)
      · have hm2 : ¬ many = 0 := by omega
        have hb : bh xs d a = none := bh_bad h (by simp [oneC, hm2]) d
        exact (walk5_M hS hx hB hn h hs hF hG hm hb).mono (none' hb)
theorem flat_6 {nm tx : ByteArray} {num many : Int} {a d : Nat} {B : Nat} (hS : St w0 w A cap xs bv ba bw be bE E) (hx : Rd w0 B A (cv xs)) (hB : B ≤ w0.heap.size) (hn : xs.length ≤ 1000000) (_hT : Tabs w0) (_hd : d ≤ 16) (h : xs[a]? = some ⟨6, nm, tx, num, many⟩) (_hs : tx.size ≤ maxLen) (hf : oneC ⟨6, nm, tx, num, many⟩ = false ∨ d = 0) :
    Calls Tryd.prog 54 #[.int .i64 a, .int .i64 d, .pointer (some ⟨bv, 0, none⟩), .pointer (some ⟨ba, 0, none⟩), .pointer (some ⟨bw, 0, none⟩), .pointer (some ⟨be, 0, none⟩)] w fun e w' => WalkPost w0 w A cap xs bv ba bw be bE E d a e w' := by
  have none' : bh xs d a = none → (∀ e w', (e = .returned (.int .i64 (-1)) ∧ w.grownBy w' (some bE) ∧ ∃ E', St w0 w' A cap xs bv ba bw be bE E' ∧ Ends xs d a E E') → WalkPost w0 w A cap xs bv ba bw be bE E d a e w') := by
    intro hb e w' g
    unfold WalkPost
    rw [hb]
    exact g
  cases hF : decide (tx = e0) with
  | false =>
    have hb : bh xs d a = none := bh_bad h (by simp [oneC, (decide_eq_false_iff_not.1 hF)]) d
    exact (walk6_F hS hx hB hn h hF hb).mono (none' hb)
  | true =>
    cases hG : decide (num = 0) with
    | false =>
      have hb : bh xs d a = none := bh_bad h (by simp [oneC, (decide_eq_true_iff.1 hF), (decide_eq_false_iff_not.1 hG)]) d
      exact (walk6_G hS hx hB hn h hF hG hb).mono (none' hb)
    | true =>
      by_cases hm : many < 0
      · have hm2 : ¬ 0 ≤ many := by omega
        have hb : bh xs d a = none := bh_bad h (by simp [oneC, (decide_eq_true_iff.1 hF), (decide_eq_true_iff.1 hG), hm2]) d
        exact (walk6_L hS hx hB hn h hF hG hm hb).mono (none' hb)
      · have hm2 : 0 ≤ many := by omega
        have ho : oneC ⟨6, nm, tx, num, many⟩ = true := by simp [oneC, (decide_eq_true_iff.1 hF), (decide_eq_true_iff.1 hG), hm2]
        have hd0 : d = 0 := by
          rcases hf with hf | hf
          · rw [ho] at hf; cases hf
          · exact hf
        have hb : bh xs d a = none := by rw [hd0]; exact bh_deep h (.inl rfl)
        exact (walk6_D hS hx hB hn h hF hG hm2 hd0 hb).mono (none' hb)
theorem flat_7 {nm tx : ByteArray} {num many : Int} {a d : Nat} {B : Nat} (hS : St w0 w A cap xs bv ba bw be bE E) (hx : Rd w0 B A (cv xs)) (hB : B ≤ w0.heap.size) (hn : xs.length ≤ 1000000) (_hT : Tabs w0) (_hd : d ≤ 16) (h : xs[a]? = some ⟨7, nm, tx, num, many⟩) (_hs : tx.size ≤ maxLen) (hf : oneC ⟨7, nm, tx, num, many⟩ = false ∨ d = 0) :
    Calls Tryd.prog 54 #[.int .i64 a, .int .i64 d, .pointer (some ⟨bv, 0, none⟩), .pointer (some ⟨ba, 0, none⟩), .pointer (some ⟨bw, 0, none⟩), .pointer (some ⟨be, 0, none⟩)] w fun e w' => WalkPost w0 w A cap xs bv ba bw be bE E d a e w' := by
  have none' : bh xs d a = none → (∀ e w', (e = .returned (.int .i64 (-1)) ∧ w.grownBy w' (some bE) ∧ ∃ E', St w0 w' A cap xs bv ba bw be bE E' ∧ Ends xs d a E E') → WalkPost w0 w A cap xs bv ba bw be bE E d a e w') := by
    intro hb e w' g
    unfold WalkPost
    rw [hb]
    exact g
  cases hF : decide (tx = e0) with
  | false =>
    have hb : bh xs d a = none := bh_bad h (by simp [oneC, (decide_eq_false_iff_not.1 hF)]) d
    exact (walk7_F hS hx hB hn h hF hb).mono (none' hb)
  | true =>
    cases hG : decide (num = 0) with
    | false =>
      have hb : bh xs d a = none := bh_bad h (by simp [oneC, (decide_eq_true_iff.1 hF), (decide_eq_false_iff_not.1 hG)]) d
      exact (walk7_G hS hx hB hn h hF hG hb).mono (none' hb)
    | true =>
      by_cases hm : many < 0
      · have hm2 : ¬ 0 ≤ many := by omega
        have hb : bh xs d a = none := bh_bad h (by simp [oneC, (decide_eq_true_iff.1 hF), (decide_eq_true_iff.1 hG), hm2]) d
        exact (walk7_L hS hx hB hn h hF hG hm hb).mono (none' hb)
      · have hm2 : 0 ≤ many := by omega
        have ho : oneC ⟨7, nm, tx, num, many⟩ = true := by simp [oneC, (decide_eq_true_iff.1 hF), (decide_eq_true_iff.1 hG), hm2]
        have hd0 : d = 0 := by
          rcases hf with hf | hf
          · rw [ho] at hf; cases hf
          · exact hf
        have hb : bh xs d a = none := by rw [hd0]; exact bh_deep h (.inr rfl)
        exact (walk7_D hS hx hB hn h hF hG hm2 hd0 hb).mono (none' hb)
set_option maxRecDepth 100000 in
set_option maxHeartbeats 2000000 in
theorem walk_more {nm tx : ByteArray} {num many : Int} {k a d : Nat} {B : Nat} (hS : St w0 w A cap xs bv ba bw be bE E) (hx : Rd w0 B A (cv xs)) (hB : B ≤ w0.heap.size) (_hn : xs.length ≤ 1000000) (h : xs[a]? = some ⟨k, nm, tx, num, many⟩) (hk : 8 ≤ k) (hk2 : k ≤ 255) (hb0 : bh xs d a = none) :
    Calls Tryd.prog 54 #[.int .i64 a, .int .i64 d, .pointer (some ⟨bv, 0, none⟩), .pointer (some ⟨ba, 0, none⟩), .pointer (some ⟨bw, 0, none⟩), .pointer (some ⟨be, 0, none⟩)] w fun e w' => e = .returned (.int .i64 (-1)) ∧ w.grownBy w' (some bE) ∧ ∃ E', St w0 w' A cap xs bv ba bw be bE E' ∧ Ends xs d a E E' := by
  have HB := Lib.hid hb0
  clear hb0
  obtain ⟨b, off, rfl, hb, c0, c1, c2, c3, c4⟩ := hx.cel1 h
  have hl := (List.getElem?_eq_some_iff.1 h).1
  have hlI : (a : Int) < xs.length := by omega
  have ha0 : decide ((a : Int) < 0) = false := by simp
  have hbw : b < w0.heap.size := by omega
  have d0 := (hS.below.cell (p := ⟨b, off + a * 5, none⟩) hbw).trans c0
  have d1 := (hS.below.cell (p := ⟨b, off + a * 5 + 1, none⟩) hbw).trans c1
  have d2 := (hS.below.cell (p := ⟨b, off + a * 5 + 2, none⟩) hbw).trans c2
  have d3 := (hS.below.cell (p := ⟨b, off + a * 5 + 3, none⟩) hbw).trans c3
  have d4 := (hS.below.cell (p := ⟨b, off + a * 5 + 4, none⟩) hbw).trans c4
  clear c0 c1 c2 c3 c4
  obtain ⟨l1, l2, l3, l4, l5⟩ := hS.lt
  have hvc := hS.hv
  have hk7 : decide ((7 : Int) < k) = true := by simp; omega
  go_enter Tryd.func54, Tryd.ntmps54
  go_wp2
  go_ret
  have hx0 := fun o => (Below.refl w.heap.size w).alloc (Nat.le_refl _) o
  exact ⟨rfl, of_below (hx0 _), E, hS.grow (hx0 _), ends_none HB.out⟩
set_option maxRecDepth 100000 in
set_option maxHeartbeats 2000000 in
theorem walk_out {a d : Nat} (hS : St w0 w A cap xs bv ba bw be bE E) (hl : xs.length ≤ a) :
    Calls Tryd.prog 54 #[.int .i64 a, .int .i64 d, .pointer (some ⟨bv, 0, none⟩), .pointer (some ⟨ba, 0, none⟩), .pointer (some ⟨bw, 0, none⟩), .pointer (some ⟨be, 0, none⟩)] w fun e w' => WalkPost w0 w A cap xs bv ba bw be bE E d a e w' := by
  have hb := bh_out hl d
  have hlI : decide ((xs.length : Int) ≤ a) = true := by simp; omega
  have ha0 : decide ((a : Int) < 0) = false := by simp
  have hvc := hS.hv
  unfold WalkPost
  rw [hb]
  have HB := Lib.hid hb
  clear hb
  go_enter Tryd.func54, Tryd.ntmps54
  go_wp2
  go_ret
  exact ⟨rfl, of_below (Below.refl _ _), E, hS, ends_none HB.out⟩
theorem walk_flat {c : Cel} {a d : Nat} {B : Nat} (hS : St w0 w A cap xs bv ba bw be bE E) (hx : Rd w0 B A (cv xs)) (hB : B ≤ w0.heap.size) (hn : xs.length ≤ 1000000) (hT : Tabs w0) (hd : d ≤ 16) (h : xs[a]? = some c) (hk : c.kind ≤ 255) (hs : c.text.size ≤ maxLen) (hf : oneC c = false ∨ ¬ nest c ∨ d = 0) :
    Calls Tryd.prog 54 #[.int .i64 a, .int .i64 d, .pointer (some ⟨bv, 0, none⟩), .pointer (some ⟨ba, 0, none⟩), .pointer (some ⟨bw, 0, none⟩), .pointer (some ⟨be, 0, none⟩)] w fun e w' => WalkPost w0 w A cap xs bv ba bw be bE E d a e w' := by
  obtain ⟨k, nm, tx, num, many⟩ := c
  simp only at hk hs
  have h8 : k = 0 ∨ k = 1 ∨ k = 2 ∨ k = 3 ∨ k = 4 ∨ k = 5 ∨ k = 6 ∨ k = 7 ∨ 8 ≤ k := by omega
  rcases h8 with rfl | rfl | rfl | rfl | rfl | rfl | rfl | rfl | h8
  · exact flat_0 hS hx hB hn hT hd h hs
  · exact flat_1 hS hx hB hn hT hd h hs
  · exact flat_2 hS hx hB hn hT hd h hs
  · exact flat_3 hS hx hB hn hT hd h hs
  · exact flat_4 hS hx hB hn hT hd h hs
  · exact flat_5 hS hx hB hn hT hd h hs
  · exact flat_6 hS hx hB hn hT hd h hs (hf.imp_right fun g => g.resolve_left (fun g => g (.inl rfl)))
  · exact flat_7 hS hx hB hn hT hd h hs (hf.imp_right fun g => g.resolve_left (fun g => g (.inr rfl)))
  · have hb : bh xs d a = none := bh_bad h (by
      unfold oneC
      simp only
      rw [if_neg (by omega), if_neg (by omega), if_neg (by omega), if_neg (by omega), if_neg (by omega), if_neg (by omega)]) d
    refine (walk_more hS hx hB hn h h8 hk hb).mono fun e w' g => ?_
    unfold WalkPost
    rw [hb]
    exact g
end Go.Proofs.YtmaefhnlipcmoaaDoor
