/- cell.behind's closure at a cell in which nothing stands, and where none may: what it answers, what it leaves (its ways put together). Conditions: lengths within the model's; Go's two tables of utf8. The map of names that the closure of cell.behind keeps: what is asked of it, what is put. Conditions: lengths within the model's. provostref03.Behind at a list, at an object, by what it answers one level deeper. Conditions: cells whose texts are of at most 2,000,000 bytes. -/
import Derived.Test.YtcgioepbooafcaaDoorWalkK0
import Derived.Test.YtcgioepbooafcaaDoorWalkK1
import Derived.Test.YtcgioepbooafcaaDoorWalkK2
import Derived.Test.YtcgioepbooafcaaDoorWalkK3
import Derived.Test.YtcgioepbooafcaaDoorWalkK4
import Derived.Test.YtcgioepbooafcaaDoorWalkK5
import Derived.Test.YtcgioepbooafcaaDoorWalkK6
import Derived.Test.YtcgioepbooafcaaDoorWalkK7
import Derived.Test.YtcgioepbooafcaaDoorMFn
import Derived.Maps.OwnSet
namespace Go.Proofs.YtcgioepbooafcaaDoor
section
open Go.RowKit
variable {w0 w w' : World} {A : Option Addr} {cap : Nat} {xs : List Cel} {bv ba bw be bE : Nat} {E : List Int}
theorem flat_0 {nm tx : ByteArray} {num many : Int} {a d : Nat} {B : Nat} (hS : St w0 w A cap xs bv ba bw be bE E) (hx : Rd w0 B A (cv xs)) (hB : B ≤ w0.heap.size) (hn : xs.length ≤ 1000000) (_hT : Tabs w0) (hd : d ≤ 16) (h : xs[a]? = some ⟨0, nm, tx, num, many⟩) (_hs : tx.size ≤ maxLen) :
    Calls Tryd.prog 62 #[.int .i64 a, .int .i64 d, .pointer (some ⟨bv, 0, none⟩), .pointer (some ⟨ba, 0, none⟩), .pointer (some ⟨bw, 0, none⟩), .pointer (some ⟨be, 0, none⟩)] w fun e w' => WalkPost w0 w A cap xs bv ba bw be bE E d a e w' := by
  have none' : bh xs d a = none → (∀ e w', (e = .returned (.int .i64 (-1)) ∧ w.grownBy w' (some bE) ∧ ∃ E', St w0 w' A cap xs bv ba bw be bE E' ∧ Ends xs d a E E') → WalkPost w0 w A cap xs bv ba bw be bE E d a e w') := by
    intro hb e w' g
    unfold WalkPost
    rw [hb]
    exact g
  have some' : bh xs d a = some (a + 1) → (∀ e w', (e = .returned (.int .i64 ((a : Int) + 1)) ∧ w.grownBy w' (some bE) ∧ ∃ E', St w0 w' A cap xs bv ba bw be bE E' ∧ Ends xs d a E E') → WalkPost w0 w A cap xs bv ba bw be bE E d a e w') := by
    intro hb e w' g
    unfold WalkPost
    rw [hb]
    exact g
  cases hF : decide (tx = e0) with
  | false =>
    have hb : bh xs d a = none := bh_bad h (by simp [oneC, (decide_eq_false_iff_not.1 hF)]) d
    exact (walk0_F hS hx hB hn h hF hb).mono (none' hb)
  | true =>
    cases hG : decide (num = 0) with
    | false =>
      have hb : bh xs d a = none := bh_bad h (by simp [oneC, (decide_eq_true_iff.1 hF), (decide_eq_false_iff_not.1 hG)]) d
      exact (walk0_G hS hx hB hn h hF hG hb).mono (none' hb)
    | true =>
      rcases Int.lt_trichotomy many 0 with hm | hm | hm
      · have hm2 : ¬ many = 0 := by omega
        have hb : bh xs d a = none := bh_bad h (by simp [oneC, hm2]) d
        exact (walk0_L hS hx hB hn h hF hG hm hb).mono (none' hb)
      · have hb : bh xs d a = some (a + 1) := bh_leaf h (by simp [oneC, (decide_eq_true_iff.1 hF), (decide_eq_true_iff.1 hG), hm]) (by simp [nest]) d
        exact (walk0_leaf hS hx hB hn h hd hF hG hm hb).mono (some' hb)
      · have hm2 : ¬ many = 0 := by omega
        have hb : bh xs d a = none := bh_bad h (by simp [oneC, hm2]) d
        exact (walk0_M hS hx hB hn h hF hG hm hb).mono (none' hb)
theorem flat_1 {nm tx : ByteArray} {num many : Int} {a d : Nat} {B : Nat} (hS : St w0 w A cap xs bv ba bw be bE E) (hx : Rd w0 B A (cv xs)) (hB : B ≤ w0.heap.size) (hn : xs.length ≤ 1000000) (_hT : Tabs w0) (hd : d ≤ 16) (h : xs[a]? = some ⟨1, nm, tx, num, many⟩) (_hs : tx.size ≤ maxLen) :
    Calls Tryd.prog 62 #[.int .i64 a, .int .i64 d, .pointer (some ⟨bv, 0, none⟩), .pointer (some ⟨ba, 0, none⟩), .pointer (some ⟨bw, 0, none⟩), .pointer (some ⟨be, 0, none⟩)] w fun e w' => WalkPost w0 w A cap xs bv ba bw be bE E d a e w' := by
  have none' : bh xs d a = none → (∀ e w', (e = .returned (.int .i64 (-1)) ∧ w.grownBy w' (some bE) ∧ ∃ E', St w0 w' A cap xs bv ba bw be bE E' ∧ Ends xs d a E E') → WalkPost w0 w A cap xs bv ba bw be bE E d a e w') := by
    intro hb e w' g
    unfold WalkPost
    rw [hb]
    exact g
  have some' : bh xs d a = some (a + 1) → (∀ e w', (e = .returned (.int .i64 ((a : Int) + 1)) ∧ w.grownBy w' (some bE) ∧ ∃ E', St w0 w' A cap xs bv ba bw be bE E' ∧ Ends xs d a E E') → WalkPost w0 w A cap xs bv ba bw be bE E d a e w') := by
    intro hb e w' g
    unfold WalkPost
    rw [hb]
    exact g
  cases hF : decide (tx = e0) with
  | false =>
    have hb : bh xs d a = none := bh_bad h (by simp [oneC, (decide_eq_false_iff_not.1 hF)]) d
    exact (walk1_F hS hx hB hn h hF hb).mono (none' hb)
  | true =>
    cases hG : (decide (num = 0) || decide (num = 1)) with
    | false =>
      have hb : bh xs d a = none := bh_bad h (by simp [oneC, (decide_eq_true_iff.1 hF), hG]) d
      exact (walk1_G hS hx hB hn h hF hG hb).mono (none' hb)
    | true =>
      rcases Int.lt_trichotomy many 0 with hm | hm | hm
      · have hm2 : ¬ many = 0 := by omega
        have hb : bh xs d a = none := bh_bad h (by simp [oneC, hm2]) d
        exact (walk1_L hS hx hB hn h hF hG hm hb).mono (none' hb)
      · have hb : bh xs d a = some (a + 1) := bh_leaf h (by simp [oneC, (decide_eq_true_iff.1 hF), hG, hm]) (by simp [nest]) d
        exact (walk1_leaf hS hx hB hn h hd hF hG hm hb).mono (some' hb)
      · have hm2 : ¬ many = 0 := by omega
        have hb : bh xs d a = none := bh_bad h (by simp [oneC, hm2]) d
        exact (walk1_M hS hx hB hn h hF hG hm hb).mono (none' hb)
theorem flat_2 {nm tx : ByteArray} {num many : Int} {a d : Nat} {B : Nat} (hS : St w0 w A cap xs bv ba bw be bE E) (hx : Rd w0 B A (cv xs)) (hB : B ≤ w0.heap.size) (hn : xs.length ≤ 1000000) (_hT : Tabs w0) (hd : d ≤ 16) (h : xs[a]? = some ⟨2, nm, tx, num, many⟩) (_hs : tx.size ≤ maxLen) :
    Calls Tryd.prog 62 #[.int .i64 a, .int .i64 d, .pointer (some ⟨bv, 0, none⟩), .pointer (some ⟨ba, 0, none⟩), .pointer (some ⟨bw, 0, none⟩), .pointer (some ⟨be, 0, none⟩)] w fun e w' => WalkPost w0 w A cap xs bv ba bw be bE E d a e w' := by
  have none' : bh xs d a = none → (∀ e w', (e = .returned (.int .i64 (-1)) ∧ w.grownBy w' (some bE) ∧ ∃ E', St w0 w' A cap xs bv ba bw be bE E' ∧ Ends xs d a E E') → WalkPost w0 w A cap xs bv ba bw be bE E d a e w') := by
    intro hb e w' g
    unfold WalkPost
    rw [hb]
    exact g
  have some' : bh xs d a = some (a + 1) → (∀ e w', (e = .returned (.int .i64 ((a : Int) + 1)) ∧ w.grownBy w' (some bE) ∧ ∃ E', St w0 w' A cap xs bv ba bw be bE E' ∧ Ends xs d a E E') → WalkPost w0 w A cap xs bv ba bw be bE E d a e w') := by
    intro hb e w' g
    unfold WalkPost
    rw [hb]
    exact g
  cases hF : decide (tx = e0) with
  | false =>
    have hb : bh xs d a = none := bh_bad h (by simp [oneC, (decide_eq_false_iff_not.1 hF)]) d
    exact (walk2_F hS hx hB hn h hF hb).mono (none' hb)
  | true =>
    rcases Int.lt_trichotomy many 0 with hm | hm | hm
    · have hm2 : ¬ many = 0 := by omega
      have hb : bh xs d a = none := bh_bad h (by simp [oneC, hm2]) d
      exact (walk2_L hS hx hB hn h hF hm hb).mono (none' hb)
    · have hb : bh xs d a = some (a + 1) := bh_leaf h (by simp [oneC, (decide_eq_true_iff.1 hF), hm]) (by simp [nest]) d
      exact (walk2_leaf hS hx hB hn h hd hF hm hb).mono (some' hb)
    · have hm2 : ¬ many = 0 := by omega
      have hb : bh xs d a = none := bh_bad h (by simp [oneC, hm2]) d
      exact (walk2_M hS hx hB hn h hF hm hb).mono (none' hb)
theorem flat_3 {nm tx : ByteArray} {num many : Int} {a d : Nat} {B : Nat} (hS : St w0 w A cap xs bv ba bw be bE E) (hx : Rd w0 B A (cv xs)) (hB : B ≤ w0.heap.size) (hn : xs.length ≤ 1000000) (hT : Tabs w0) (hd : d ≤ 16) (h : xs[a]? = some ⟨3, nm, tx, num, many⟩) (hs : tx.size ≤ maxLen) :
    Calls Tryd.prog 62 #[.int .i64 a, .int .i64 d, .pointer (some ⟨bv, 0, none⟩), .pointer (some ⟨ba, 0, none⟩), .pointer (some ⟨bw, 0, none⟩), .pointer (some ⟨be, 0, none⟩)] w fun e w' => WalkPost w0 w A cap xs bv ba bw be bE E d a e w' := by
  have none' : bh xs d a = none → (∀ e w', (e = .returned (.int .i64 (-1)) ∧ w.grownBy w' (some bE) ∧ ∃ E', St w0 w' A cap xs bv ba bw be bE E' ∧ Ends xs d a E E') → WalkPost w0 w A cap xs bv ba bw be bE E d a e w') := by
    intro hb e w' g
    unfold WalkPost
    rw [hb]
    exact g
  have some' : bh xs d a = some (a + 1) → (∀ e w', (e = .returned (.int .i64 ((a : Int) + 1)) ∧ w.grownBy w' (some bE) ∧ ∃ E', St w0 w' A cap xs bv ba bw be bE E' ∧ Ends xs d a E E') → WalkPost w0 w A cap xs bv ba bw be bE E d a e w') := by
    intro hb e w' g
    unfold WalkPost
    rw [hb]
    exact g
  cases hF : textOk tx with
  | false =>
    have hb : bh xs d a = none := bh_bad h (by simp [oneC, hF]) d
    exact (walk3_F hS hx hB hn h hs hT hF hb).mono (none' hb)
  | true =>
    cases hG : decide (num = 0) with
    | false =>
      have hb : bh xs d a = none := bh_bad h (by simp [oneC, hF, (decide_eq_false_iff_not.1 hG)]) d
      exact (walk3_G hS hx hB hn h hs hT hF hG hb).mono (none' hb)
    | true =>
      rcases Int.lt_trichotomy many 0 with hm | hm | hm
      · have hm2 : ¬ many = 0 := by omega
        have hb : bh xs d a = none := bh_bad h (by simp [oneC, hm2]) d
        exact (walk3_L hS hx hB hn h hs hT hF hG hm hb).mono (none' hb)
      · have hb : bh xs d a = some (a + 1) := bh_leaf h (by simp [oneC, hF, (decide_eq_true_iff.1 hG), hm]) (by simp [nest]) d
        exact (walk3_leaf hS hx hB hn h hd hs hT hF hG hm hb).mono (some' hb)
      · have hm2 : ¬ many = 0 := by omega
        have hb : bh xs d a = none := bh_bad h (by simp [oneC, hm2]) d
        exact (walk3_M hS hx hB hn h hs hT hF hG hm hb).mono (none' hb)
theorem flat_4 {nm tx : ByteArray} {num many : Int} {a d : Nat} {B : Nat} (hS : St w0 w A cap xs bv ba bw be bE E) (hx : Rd w0 B A (cv xs)) (hB : B ≤ w0.heap.size) (hn : xs.length ≤ 1000000) (_hT : Tabs w0) (hd : d ≤ 16) (h : xs[a]? = some ⟨4, nm, tx, num, many⟩) (hs : tx.size ≤ maxLen) :
    Calls Tryd.prog 62 #[.int .i64 a, .int .i64 d, .pointer (some ⟨bv, 0, none⟩), .pointer (some ⟨ba, 0, none⟩), .pointer (some ⟨bw, 0, none⟩), .pointer (some ⟨be, 0, none⟩)] w fun e w' => WalkPost w0 w A cap xs bv ba bw be bE E d a e w' := by
  have none' : bh xs d a = none → (∀ e w', (e = .returned (.int .i64 (-1)) ∧ w.grownBy w' (some bE) ∧ ∃ E', St w0 w' A cap xs bv ba bw be bE E' ∧ Ends xs d a E E') → WalkPost w0 w A cap xs bv ba bw be bE E d a e w') := by
    intro hb e w' g
    unfold WalkPost
    rw [hb]
    exact g
  have some' : bh xs d a = some (a + 1) → (∀ e w', (e = .returned (.int .i64 ((a : Int) + 1)) ∧ w.grownBy w' (some bE) ∧ ∃ E', St w0 w' A cap xs bv ba bw be bE E' ∧ Ends xs d a E E') → WalkPost w0 w A cap xs bv ba bw be bE E d a e w') := by
    intro hb e w' g
    unfold WalkPost
    rw [hb]
    exact g
  cases hF : nameOk tx with
  | false =>
    have hb : bh xs d a = none := bh_bad h (by simp [oneC, hF]) d
    exact (walk4_F hS hx hB hn h hs hF hb).mono (none' hb)
  | true =>
    cases hG : decide (num = 0) with
    | false =>
      have hb : bh xs d a = none := bh_bad h (by simp [oneC, hF, (decide_eq_false_iff_not.1 hG)]) d
      exact (walk4_G hS hx hB hn h hs hF hG hb).mono (none' hb)
    | true =>
      rcases Int.lt_trichotomy many 0 with hm | hm | hm
      · have hm2 : ¬ many = 0 := by omega
        have hb : bh xs d a = none := bh_bad h (by simp [oneC, hm2]) d
        exact (walk4_L hS hx hB hn h hs hF hG hm hb).mono (none' hb)
      · have hb : bh xs d a = some (a + 1) := bh_leaf h (by simp [oneC, hF, (decide_eq_true_iff.1 hG), hm]) (by simp [nest]) d
        exact (walk4_leaf hS hx hB hn h hd hs hF hG hm hb).mono (some' hb)
      · have hm2 : ¬ many = 0 := by omega
        have hb : bh xs d a = none := bh_bad h (by simp [oneC, hm2]) d
        exact (walk4_M hS hx hB hn h hs hF hG hm hb).mono (none' hb)
theorem flat_5 {nm tx : ByteArray} {num many : Int} {a d : Nat} {B : Nat} (hS : St w0 w A cap xs bv ba bw be bE E) (hx : Rd w0 B A (cv xs)) (hB : B ≤ w0.heap.size) (hn : xs.length ≤ 1000000) (_hT : Tabs w0) (hd : d ≤ 16) (h : xs[a]? = some ⟨5, nm, tx, num, many⟩) (hs : tx.size ≤ maxLen) :
    Calls Tryd.prog 62 #[.int .i64 a, .int .i64 d, .pointer (some ⟨bv, 0, none⟩), .pointer (some ⟨ba, 0, none⟩), .pointer (some ⟨bw, 0, none⟩), .pointer (some ⟨be, 0, none⟩)] w fun e w' => WalkPost w0 w A cap xs bv ba bw be bE E d a e w' := by
  have none' : bh xs d a = none → (∀ e w', (e = .returned (.int .i64 (-1)) ∧ w.grownBy w' (some bE) ∧ ∃ E', St w0 w' A cap xs bv ba bw be bE E' ∧ Ends xs d a E E') → WalkPost w0 w A cap xs bv ba bw be bE E d a e w') := by
    intro hb e w' g
    unfold WalkPost
    rw [hb]
    exact g
  have some' : bh xs d a = some (a + 1) → (∀ e w', (e = .returned (.int .i64 ((a : Int) + 1)) ∧ w.grownBy w' (some bE) ∧ ∃ E', St w0 w' A cap xs bv ba bw be bE E' ∧ Ends xs d a E E') → WalkPost w0 w A cap xs bv ba bw be bE E d a e w') := by
    intro hb e w' g
    unfold WalkPost
    rw [hb]
    exact g
  cases hF : nameOk tx with
  | false =>
    have hb : bh xs d a = none := bh_bad h (by simp [oneC, hF]) d
    exact (walk5_F hS hx hB hn h hs hF hb).mono (none' hb)
  | true =>
    cases hG : decide (num = 0) with
    | false =>
      have hb : bh xs d a = none := bh_bad h (by simp [oneC, hF, (decide_eq_false_iff_not.1 hG)]) d
      exact (walk5_G hS hx hB hn h hs hF hG hb).mono (none' hb)
    | true =>
      rcases Int.lt_trichotomy many 0 with hm | hm | hm
      · have hm2 : ¬ many = 0 := by omega
        have hb : bh xs d a = none := bh_bad h (by simp [oneC, hm2]) d
        exact (walk5_L hS hx hB hn h hs hF hG hm hb).mono (none' hb)
      · have hb : bh xs d a = some (a + 1) := bh_leaf h (by simp [oneC, hF, (decide_eq_true_iff.1 hG), hm]) (by simp [nest]) d
        exact (walk5_leaf hS hx hB hn h hd hs hF hG hm hb).mono (some' hb)
      · have hm2 : ¬ many = 0 := by omega
        have hb : bh xs d a = none := bh_bad h (by simp [oneC, hm2]) d
        exact (walk5_M hS hx hB hn h hs hF hG hm hb).mono (none' hb)
theorem flat_6 {nm tx : ByteArray} {num many : Int} {a d : Nat} {B : Nat} (hS : St w0 w A cap xs bv ba bw be bE E) (hx : Rd w0 B A (cv xs)) (hB : B ≤ w0.heap.size) (hn : xs.length ≤ 1000000) (_hT : Tabs w0) (_hd : d ≤ 16) (h : xs[a]? = some ⟨6, nm, tx, num, many⟩) (_hs : tx.size ≤ maxLen) (hf : oneC ⟨6, nm, tx, num, many⟩ = false ∨ d = 0) :
    Calls Tryd.prog 62 #[.int .i64 a, .int .i64 d, .pointer (some ⟨bv, 0, none⟩), .pointer (some ⟨ba, 0, none⟩), .pointer (some ⟨bw, 0, none⟩), .pointer (some ⟨be, 0, none⟩)] w fun e w' => WalkPost w0 w A cap xs bv ba bw be bE E d a e w' := by
  have none' : bh xs d a = none → (∀ e w', (e = .returned (.int .i64 (-1)) ∧ w.grownBy w' (some bE) ∧ ∃ E', St w0 w' A cap xs bv ba bw be bE E' ∧ Ends xs d a E E') → WalkPost w0 w A cap xs bv ba bw be bE E d a e w') := by
    intro hb e w' g
    unfold WalkPost
    rw [hb]
    exact g
  cases hF : decide (tx = e0) with
  | false =>
    have hb : bh xs d a = none := bh_bad h (by simp [oneC, (decide_eq_false_iff_not.1 hF)]) d
    exact (walk6_F hS hx hB hn h hF hb).mono (none' hb)
  | true =>
    cases hG : decide (num = 0) with
    | false =>
      have hb : bh xs d a = none := bh_bad h (by simp [oneC, (decide_eq_true_iff.1 hF), (decide_eq_false_iff_not.1 hG)]) d
      exact (walk6_G hS hx hB hn h hF hG hb).mono (none' hb)
    | true =>
      by_cases hm : many < 0
      · have hm2 : ¬ 0 ≤ many := by omega
        have hb : bh xs d a = none := bh_bad h (by simp [oneC, (decide_eq_true_iff.1 hF), (decide_eq_true_iff.1 hG), hm2]) d
        exact (walk6_L hS hx hB hn h hF hG hm hb).mono (none' hb)
      · have hm2 : 0 ≤ many := by omega
        have ho : oneC ⟨6, nm, tx, num, many⟩ = true := by simp [oneC, (decide_eq_true_iff.1 hF), (decide_eq_true_iff.1 hG), hm2]
        have hd0 : d = 0 := by
          rcases hf with hf | hf
          · rw [ho] at hf; cases hf
          · exact hf
        have hb : bh xs d a = none := by rw [hd0]; exact bh_deep h (.inl rfl)
        exact (walk6_D hS hx hB hn h hF hG hm2 hd0 hb).mono (none' hb)
theorem flat_7 {nm tx : ByteArray} {num many : Int} {a d : Nat} {B : Nat} (hS : St w0 w A cap xs bv ba bw be bE E) (hx : Rd w0 B A (cv xs)) (hB : B ≤ w0.heap.size) (hn : xs.length ≤ 1000000) (_hT : Tabs w0) (_hd : d ≤ 16) (h : xs[a]? = some ⟨7, nm, tx, num, many⟩) (_hs : tx.size ≤ maxLen) (hf : oneC ⟨7, nm, tx, num, many⟩ = false ∨ d = 0) :
    Calls Tryd.prog 62 #[.int .i64 a, .int .i64 d, .pointer (some ⟨bv, 0, none⟩), .pointer (some ⟨ba, 0, none⟩), .pointer (some ⟨bw, 0, none⟩), .pointer (some ⟨be, 0, none⟩)] w fun e w' => WalkPost w0 w A cap xs bv ba bw be bE E d a e w' := by
  have none' : bh xs d a = none → (∀ e w', (e = .returned (.int .i64 (-1)) ∧ w.grownBy w' (some bE) ∧ ∃ E', St w0 w' A cap xs bv ba bw be bE E' ∧ Ends xs d a E E') → WalkPost w0 w A cap xs bv ba bw be bE E d a e w') := by
    intro hb e w' g
    unfold WalkPost
    rw [hb]
    exact g
  cases hF : decide (tx = e0) with
  | false =>
    have hb : bh xs d a = none := bh_bad h (by simp [oneC, (decide_eq_false_iff_not.1 hF)]) d
    exact (walk7_F hS hx hB hn h hF hb).mono (none' hb)
  | true =>
    cases hG : decide (num = 0) with
    | false =>
      have hb : bh xs d a = none := bh_bad h (by simp [oneC, (decide_eq_true_iff.1 hF), (decide_eq_false_iff_not.1 hG)]) d
      exact (walk7_G hS hx hB hn h hF hG hb).mono (none' hb)
    | true =>
      by_cases hm : many < 0
      · have hm2 : ¬ 0 ≤ many := by omega
        have hb : bh xs d a = none := bh_bad h (by simp [oneC, (decide_eq_true_iff.1 hF), (decide_eq_true_iff.1 hG), hm2]) d
        exact (walk7_L hS hx hB hn h hF hG hm hb).mono (none' hb)
      · have hm2 : 0 ≤ many := by omega
        have ho : oneC ⟨7, nm, tx, num, many⟩ = true := by simp [oneC, (decide_eq_true_iff.1 hF), (decide_eq_true_iff.1 hG), hm2]
        have hd0 : d = 0 := by
          rcases hf with hf | hf
          · rw [ho] at hf; cases hf
          · exact hf
        have hb : bh xs d a = none := by rw [hd0]; exact bh_deep h (.inr rfl)
        exact (walk7_D hS hx hB hn h hF hG hm2 hd0 hb).mono (none' hb)
set_option maxRecDepth 100000 in
set_option maxHeartbeats 2000000 in
theorem walk_more {nm tx : ByteArray} {num many : Int} {k a d : Nat} {B : Nat} (hS : St w0 w A cap xs bv ba bw be bE E) (hx : Rd w0 B A (cv xs)) (hB : B ≤ w0.heap.size) (_hn : xs.length ≤ 1000000) (h : xs[a]? = some ⟨k, nm, tx, num, many⟩) (hk : 8 ≤ k) (hk2 : k ≤ 255) (hb0 : bh xs d a = none) :
    Calls Tryd.prog 62 #[.int .i64 a, .int .i64 d, .pointer (some ⟨bv, 0, none⟩), .pointer (some ⟨ba, 0, none⟩), .pointer (some ⟨bw, 0, none⟩), .pointer (some ⟨be, 0, none⟩)] w fun e w' => e = .returned (.int .i64 (-1)) ∧ w.grownBy w' (some bE) ∧ ∃ E', St w0 w' A cap xs bv ba bw be bE E' ∧ Ends xs d a E E' := by
  have HB := Lib.hid hb0
  clear hb0
  obtain ⟨b, off, rfl, hb, c0, c1, c2, c3, c4⟩ := hx.cel1 h
  have hl := (List.getElem?_eq_some_iff.1 h).1
  have hlI : (a : Int) < xs.length := by omega
  have ha0 : decide ((a : Int) < 0) = false := by simp
  have hbw : b < w0.heap.size := by omega
  have d0 := (hS.below.cell (p := ⟨b, off + a * 5, none⟩) hbw).trans c0
  have d1 := (hS.below.cell (p := ⟨b, off + a * 5 + 1, none⟩) hbw).trans c1
  have d2 := (hS.below.cell (p := ⟨b, off + a * 5 + 2, none⟩) hbw).trans c2
  have d3 := (hS.below.cell (p := ⟨b, off + a * 5 + 3, none⟩) hbw).trans c3
  have d4 := (hS.below.cell (p := ⟨b, off + a * 5 + 4, none⟩) hbw).trans c4
  clear c0 c1 c2 c3 c4
  obtain ⟨l1, l2, l3, l4, l5⟩ := hS.lt
  have hvc := hS.hv
  have hk7 : decide ((7 : Int) < k) = true := by simp; omega
  go_enter Tryd.func62, Tryd.ntmps62
  go_wp2
  go_ret
  have hx0 := fun o => (Below.refl w.heap.size w).alloc (Nat.le_refl _) o
  exact ⟨rfl, of_below (hx0 _), E, hS.grow (hx0 _), ends_none HB.out⟩
set_option maxRecDepth 100000 in
set_option maxHeartbeats 2000000 in
theorem walk_out {a d : Nat} (hS : St w0 w A cap xs bv ba bw be bE E) (hl : xs.length ≤ a) :
    Calls Tryd.prog 62 #[.int .i64 a, .int .i64 d, .pointer (some ⟨bv, 0, none⟩), .pointer (some ⟨ba, 0, none⟩), .pointer (some ⟨bw, 0, none⟩), .pointer (some ⟨be, 0, none⟩)] w fun e w' => WalkPost w0 w A cap xs bv ba bw be bE E d a e w' := by
  have hb := bh_out hl d
  have hlI : decide ((xs.length : Int) ≤ a) = true := by simp; omega
  have ha0 : decide ((a : Int) < 0) = false := by simp
  have hvc := hS.hv
  unfold WalkPost
  rw [hb]
  have HB := Lib.hid hb
  clear hb
  go_enter Tryd.func62, Tryd.ntmps62
  go_wp2
  go_ret
  exact ⟨rfl, of_below (Below.refl _ _), E, hS, ends_none HB.out⟩
theorem walk_flat {c : Cel} {a d : Nat} {B : Nat} (hS : St w0 w A cap xs bv ba bw be bE E) (hx : Rd w0 B A (cv xs)) (hB : B ≤ w0.heap.size) (hn : xs.length ≤ 1000000) (hT : Tabs w0) (hd : d ≤ 16) (h : xs[a]? = some c) (hk : c.kind ≤ 255) (hs : c.text.size ≤ maxLen) (hf : oneC c = false ∨ ¬ nest c ∨ d = 0) :
    Calls Tryd.prog 62 #[.int .i64 a, .int .i64 d, .pointer (some ⟨bv, 0, none⟩), .pointer (some ⟨ba, 0, none⟩), .pointer (some ⟨bw, 0, none⟩), .pointer (some ⟨be, 0, none⟩)] w fun e w' => WalkPost w0 w A cap xs bv ba bw be bE E d a e w' := by
  obtain ⟨k, nm, tx, num, many⟩ := c
  simp only at hk hs
  have h8 : k = 0 ∨ k = 1 ∨ k = 2 ∨ k = 3 ∨ k = 4 ∨ k = 5 ∨ k = 6 ∨ k = 7 ∨ 8 ≤ k := by omega
  rcases h8 with rfl | rfl | rfl | rfl | rfl | rfl | rfl | rfl | h8
  · exact flat_0 hS hx hB hn hT hd h hs
  · exact flat_1 hS hx hB hn hT hd h hs
  · exact flat_2 hS hx hB hn hT hd h hs
  · exact flat_3 hS hx hB hn hT hd h hs
  · exact flat_4 hS hx hB hn hT hd h hs
  · exact flat_5 hS hx hB hn hT hd h hs
  · exact flat_6 hS hx hB hn hT hd h hs (hf.imp_right fun g => g.resolve_left (fun g => g (.inl rfl)))
  · exact flat_7 hS hx hB hn hT hd h hs (hf.imp_right fun g => g.resolve_left (fun g => g (.inr rfl)))
  · have hb : bh xs d a = none := bh_bad h (by
      unfold oneC
      simp only
      rw [if_neg (by omega), if_neg (by omega), if_neg (by omega), if_neg (by omega), if_neg (by omega), if_neg (by omega)]) d
    refine (walk_more hS hx hB hn h h8 hk hb).mono fun e w' g => ?_
    unfold WalkPost
    rw [hb]
    exact g
end
section
open Go.RowKit Go.Maps Go.WideMaps
theorem str_law : Keyed Tryd.prog 9 := string_keyed Tryd.underlying9
theorem zero_int (w : World) : (zeroValue 3).run Tryd.prog w = .ok (.int .i64 0) w := by kernel_rfl
def one (ns : List ByteArray) (s : ByteArray) : Int := if amongL ns s = true then 1 else 0
structure Names (w : World) (b k : Nat) (ns : List ByteArray) : Prop where
  out : ∃ D : DataW Unit, w.ownsMap Tryd.prog 9 (plainElem Tryd.prog 3) b k D ∧ ∀ s : ByteArray, D.atKey (.string s.data.toList) (.lit (.int .i64 0)) = .lit (.int .i64 (one ns s))
theorem Names.made (w : World) : Names (w.alloc (.map #[] 0)) w.heap.size 0 [] :=
  ⟨.map [], World.ownsMap_made _ _ _ _, fun _ => rfl⟩
theorem Names.kept {w w' : World} {b k : Nat} {ns : List ByteArray} (h : Names w b k ns) {r : Option Nat} (hg : w.grownBy w' r) (hne : some b ≠ r) : Names w' b k ns := by
  obtain ⟨D, h1, h2⟩ := h.out
  exact ⟨D, h1.kept hg hne, h2⟩
theorem Names.lt {w : World} {b k : Nat} {ns : List ByteArray} (h : Names w b k ns) : b < w.heap.size := by
  obtain ⟨D, h1, h2⟩ := h.out
  exact h1.lt
theorem Names.look {w : World} {b k : Nat} {ns : List ByteArray} (h : Names w b k ns) (s : ByteArray) (hs : s.size ≤ maxLen) :
    (Instr.lookup 76 (.map (some b)) (.string s) false).run Tryd.prog w = .ok (.int .i64 (one ns s)) w := by
  obtain ⟨D, h1, h2⟩ := h.out
  obtain ⟨c, hrun, hat, _⟩ := h1.lookup_int str_law Tryd.underlying76 Tryd.underlying3 (zero_int _) (keyOf_string_mk Tryd.underlying9 hs)
  rw [h2 s] at hat
  simp only [DataW.lit.injEq, Lit.int.injEq, true_and] at hat
  rw [hat]
  exact hrun
theorem one_cons (ns : List ByteArray) (n s : ByteArray) : one (n :: ns) s = if n = s then 1 else one ns s := by
  unfold one amongL
  by_cases h : n = s
  · simp [h]
  · rw [List.any_cons, decide_eq_false h, Bool.false_or, if_neg h]
theorem Names.put {w : World} {b k : Nat} {ns : List ByteArray} (h : Names w b k ns) (n : ByteArray) (hs : n.size ≤ maxLen) (hk : k < maxLen) :
    ∃ w', (Instr.mapUpdate 76 (.map (some b)) (.string n) (.int .i64 1)).run Tryd.prog w = .ok () w' ∧ Names w' b (k + 1) (n :: ns) ∧ w.grownBy w' (some b) := by
  obtain ⟨D, h1, h2⟩ := h.out
  obtain ⟨w', hrun, hown, hg⟩ := h1.update str_law Tryd.underlying76 hk (keyOf_string_mk Tryd.underlying9 hs) (plainElem_int Tryd.underlying3 (a := 1) (by decide))
  refine ⟨w', hrun, ⟨_, hown, fun s => ?_⟩, hg⟩
  rw [one_cons]
  by_cases e : n = s
  · subst e
    rw [if_pos rfl, atKey_put_same (h1.isMap) (by trivial)]
  · rw [if_neg e, atKey_put_other (fun g => e ?_)]
    · exact h2 s
    · simp only [Lit.string.injEq] at g
      exact (ba_ext (by rw [Lib.toList_data, Lib.toList_data]; exact g)).symm
theorem St.map {w0 w w' : World} {A : Option Addr} {cap : Nat} {xs : List Cel} {bv ba bw be bE bm : Nat} {E : List Int} (h : St w0 w A cap xs bv ba bw be bE E) (hg : w.grownBy w' (some bm)) (h0 : w0.heap.size ≤ bm)
    (hk : bm ≠ bv ∧ bm ≠ ba ∧ bm ≠ bw ∧ bm ≠ be ∧ bm ≠ bE) : St w0 w' A cap xs bv ba bw be bE E := by
  obtain ⟨l1, l2, l3, l4, l5⟩ := h.lt
  obtain ⟨k1, k2, k3, k4, k5⟩ := hk
  exact ⟨h.below.grown hg h.below.size (fun k e => by cases e; exact h0), hg.cell h.hv (fun e => k1 (Option.some.inj e).symm), (hg.block _ l2 (fun e => k2 (Option.some.inj e).symm)).trans h.hk, hg.cell h.hw (fun e => k3 (Option.some.inj e).symm), hg.cell h.he (fun e => k4 (Option.some.inj e).symm), (hg.block _ l5 (fun e => k5 (Option.some.inj e).symm)).trans h.hE, h.len, h.b0, h.n1, h.n2, h.n3, h.n4⟩
end
section
open Go.RowKit
theorem info_str : (Tryd.prog.info? 9).map (fun i => (i.zero, i.size, i.bytes)) = some (some (.string ⟨#[]⟩), 1, 16) := by kernel_rfl
theorem loop_none {f : Nat → Option Nat} {xs : List Cel} {q : Nat} (h : xs.length ≤ q) {K m : Nat} {ns : List ByteArray} : loop f xs K (m + 1) q ns = none := by
  rw [loop, List.getElem?_eq_none h]
theorem loop_some {f : Nat → Option Nat} {xs : List Cel} {q : Nat} {e : Cel} (h : xs[q]? = some e) {K m : Nat} {ns : List ByteArray} :
    loop f xs K (m + 1) q ns = if kidOk K ns e.name = true then (match f q with | none => none | some nx => loop f xs K m nx (e.name :: ns)) else none := by
  rw [loop, h]
  rfl
theorem oneC_many {c : Cel} (h : oneC c = true) (hk : nest c) : 0 ≤ c.many := by
  unfold oneC at h
  rcases hk with hk | hk <;> (rw [hk] at h; simp at h; exact h.2)
end
end Go.Proofs.YtcgioepbooafcaaDoor
