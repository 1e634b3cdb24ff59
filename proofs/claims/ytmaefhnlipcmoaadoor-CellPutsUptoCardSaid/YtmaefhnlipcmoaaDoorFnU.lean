/- cell.Sub: the value at a place. Conditions: lengths within the model's; Go's two tables of utf8. -/
import Derived.Test.YtmaefhnlipcmoaaDoorFnG
import Derived.Test.YtmaefhnlipcmoaaDoorFn4
namespace Go.Proofs.YtmaefhnlipcmoaaDoor
open Go.RowKit
def bare : List Cel → List Cel
  | [] => []
  | c :: r => { c with name := e0 } :: r
def subL (xs : List Cel) (i : Nat) : List Cel := bare ((xs.drop i).take (endN xs i - i))
def subR (xs : List Cel) (a : Int) : List Cel := if askedC xs a = 0 then subL xs a.toNat else []
theorem cv_drop : ∀ (i : Nat) (xs : List Cel), cv (xs.drop i) = (cv xs).drop (i * 5)
  | 0, xs => by simp
  | i + 1, [] => by simp [cv]
  | i + 1, c :: r => by
    rw [List.drop_succ_cons, cv_drop i r, show (i + 1) * 5 = i * 5 + 5 by omega]
    simp [cv]
theorem cv_take : ∀ (i : Nat) (xs : List Cel), cv (xs.take i) = (cv xs).take (i * 5)
  | 0, xs => by simp [cv]
  | i + 1, [] => by simp [cv]
  | i + 1, c :: r => by
    rw [List.take_succ_cons, show (i + 1) * 5 = i * 5 + 5 by omega]
    simp [cv, cv_take i r]
theorem rd_sub {w : World} {B b off : Nat} {xs : List Cel} (h : Rd w B (some ⟨b, off, none⟩) (cv xs)) (i k : Nat) : Rd w B (some ⟨b, off + i * 5, none⟩) (cv ((xs.drop i).take k)) := by
  rcases h with h | ⟨b', off', e, hb, hc⟩
  · left
    have : xs = [] := List.eq_nil_of_length_eq_zero (by have := cv_len xs; rw [h] at this; simp at this; omega)
    subst this
    simp [cv]
  · right
    simp only [Option.some.injEq, Addr.mk.injEq, and_true] at e
    obtain ⟨rfl, rfl⟩ := e
    refine ⟨b, off + i * 5, rfl, hb, fun j hj => ?_⟩
    rw [cv_take, List.length_take, cv_drop, List.length_drop] at hj
    have e1 : (cv ((xs.drop i).take k))[j]'(by rw [cv_take, List.length_take, cv_drop, List.length_drop]; exact hj) = (cv xs)[i * 5 + j]'(by omega) := by
      simp only [cv_take, cv_drop, List.getElem_take, List.getElem_drop]
    rw [e1, Nat.add_assoc]
    exact hc (i * 5 + j) (by omega)
theorem cv_bare (xs : List Cel) (h : xs ≠ []) : cv (bare xs) = (cv xs).set 1 (.string ⟨#[]⟩) := by
  cases xs with
  | nil => exact absurd rfl h
  | cons c r => simp [bare, cv, e0]
theorem bare_len (xs : List Cel) : (bare xs).length = xs.length := by cases xs <;> rfl
theorem own_set {w : World} {base g n c sz : Nat} {e : TypeId} {xs : List Value} (h : w.ownsRow base e sz (.slice (some ⟨g, 0, none⟩) n c) n xs) (i : Nat) (v : Value) (hi : i < xs.length) :
    (w.setCell ⟨g, i, none⟩ v).ownsRow base e sz (.slice (some ⟨g, 0, none⟩) n c) n (xs.set i v) := by
  refine ⟨by rw [List.length_set]; exact h.1, ?_⟩
  rcases h.2 with ⟨h3, _⟩ | ⟨g', cap, cur, h3, hg, hh, hnc, hc, hs, ht⟩
  · simp at h3
  · simp only [Value.slice.injEq, Option.some.injEq, Addr.mk.injEq, and_true, true_and] at h3
    obtain ⟨rfl, rfl⟩ := h3
    right
    refine ⟨g, c, cur.setIfInBounds i v, rfl, hg, by simp [World.setCell, Array.getElem?_modify, hh], hnc, hc, by simpa using hs, ?_⟩
    subst ht
    rw [List.length_take] at hi
    rw [Array.toList_setIfInBounds]
    apply List.ext_getElem?
    intro j
    simp only [List.getElem?_take, List.getElem?_set, List.length_take]
    by_cases hj : j < n * sz
    · simp only [hj, if_true]
      by_cases hij : i = j
      · subst hij
        have : i < cur.toList.length := by omega
        simp only [if_true]
        rw [if_pos this, if_pos (by omega)]
      · simp only [hij, if_false]
    · simp only [hj, if_false]
      rw [if_neg (by omega)]
theorem own_some {w : World} {base n sz : Nat} {e : TypeId} {v : Value} {xs : List Value} (h : w.ownsRow base e sz v n xs) (hn : 0 < n) : ∃ g c cur, v = .slice (some ⟨g, 0, none⟩) n c ∧ base ≤ g ∧ n ≤ c ∧ c ≤ maxLen ∧ w.heap[g]? = some (.cells cur e) ∧ cur.size = c * sz ∧ cur.toList.take (n * sz) = xs := by
  rcases h.2 with ⟨_, h3⟩ | ⟨g, cap, cur, h3, hg, hh, hnc, hc, hs, ht⟩
  · omega
  · exact ⟨g, cap, cur, h3, hg, hnc, hc, hh, hs, ht⟩
set_option maxHeartbeats 4000000 in
theorem sub_any {xs : List Cel} (A : Option Addr) (cap : Nat) (a : Int) (w : World) {B : Nat} (h : In xs A w B) (hcap : xs.length ≤ cap) (_hcm : cap ≤ maxLen) :
    Calls Tryd.prog 25 #[.slice A xs.length cap, .int .i64 a] w fun e w' => ∃ v, e = .returned (.tuple #[v, .int .i64 (askedC xs a)]) ∧ w'.ownsRow w.heap.size 45 5 v (subR xs a).length (cv (subR xs a)) ∧ Below w.heap.size w w' := by
  unfold maxLen at _hcm
  have hc := asked_any A cap a w h
  obtain ⟨V, hV⟩ : ∃ V, askedC xs a = V := ⟨_, rfl⟩
  obtain ⟨R, hR⟩ : ∃ R, subR xs a = R := ⟨_, rfl⟩
  unfold AskedPost at hc
  rw [hR]
  unfold subR at hR
  rw [hV] at hc hR ⊢
  clear hV
  have HIN := Lib.hid h
  clear h
  go_enter Tryd.func25, Tryd.ntmps25
  go_wp2_with fail
  refine hc.mono ?_
  rintro e w1 ⟨hb, ⟨hne, rfl⟩ | ⟨rfl, hm, i, bE, E, rfl, hil, rfl, r1, r2, r3⟩⟩
  · rw [if_neg hne] at hR
    subst hR
    have hneB : (V != 0) = true := bne_iff_ne.2 hne
    clear hne
    go_wp2
    go_ret2
    exact ⟨_, rfl, World.ownsRow_nil _ _ _ _, hb⟩
  · have hEI := end_cell r2 r3 hil
    have hiI : (i : Int) < xs.length := by omega
    obtain ⟨b, off, rfl, _, _⟩ := HIN.out.rd.cel1 (List.getElem?_eq_getElem hil)
    obtain ⟨_, _, g1, g2⟩ := r3.at' hil
    rw [if_pos rfl, Int.toNat_natCast, subL] at hR
    obtain ⟨n, hn⟩ : ∃ n, endN xs i = n := ⟨_, rfl⟩
    rw [hn] at hEI g1 g2 hR
    have hml := mayC_len hm
    obtain ⟨ys, hys⟩ : ∃ ys, (xs.drop i).take (n - i) = ys := ⟨_, rfl⟩
    have hyl : ys.length = n - i := by rw [← hys]; simp; omega
    have hcl := clone_any (xs := ys) b (off + i * 5) (cap - i) w1 (B := B) (by rw [← hys]; exact rd_sub (HIN.out.rd.thru hb HIN.out.le) i (n - i)) (by omega)
    rw [hyl] at hcl
    rw [hys] at hR
    have hniI : ((n - i : Nat) : Int) = (n : Int) - i := by omega
    clear r2 r3 hm hn hys hc
    go_wp2_with fail
    refine hcl.mono ?_
    rintro e w2 ⟨v, rfl, hown, hb2⟩
    obtain ⟨g, c2, cur, rfl, q1, q2, q3, q4, q5, q6⟩ := own_some hown (by omega)
    have hcell : ∃ x, w2.cell? ⟨g, 1, none⟩ = some x := by
      refine ⟨cur[1]'(by rw [q5]; omega), ?_⟩
      rw [cell_of_row w2 g 1 _ _ (0, 0) q4, Array.getElem?_eq_getElem]
    obtain ⟨x, hx⟩ := hcell
    have hfz : w2.frozen? ⟨g, 1, none⟩ = false := by simp [World.frozen?, q4]
    have hnz : (0 : Int) < ((n - i : Nat) : Int) := by omega
    have HO := Lib.hid hown
    clear q4 q5 q6 hown hcl
    go_wp2
    go_ret2
    refine ⟨_, rfl, ?_, (hb.trans (hb2.mono hb.size)).setCell (by have := hb.size; show w.heap.size ≤ g; omega) _⟩
    rw [← hR, bare_len, hyl, cv_bare ys (by intro e; rw [e] at hyl; simp at hyl; omega)]
    exact own_base (own_set HO.out 1 _ (by rw [cv_len]; omega)) hb.size
end Go.Proofs.YtmaefhnlipcmoaaDoor
