/- provostref06.Cuts. Conditions: at most 20 sets of at most 20 ranges, or more than 256 sets. -/
import Derived.Test.YtlndfkanbibhhaaRngTurns
namespace Go.Proofs.Ytlndfkanbibhhaa
open Go.RowKit
def allM (xss : List (List Rg)) : Bool := xss.all mayB
theorem allM_drop {xss : List (List Rg)} {k : Nat} (h : k < xss.length) : allM (xss.drop k) = (mayB xss[k] && allM (xss.drop (k + 1))) := by
  rw [List.drop_eq_getElem_cons h]
  rfl
theorem allM_one {xss : List (List Rg)} (h : allM xss = true) : ∀ l ∈ xss, ∀ r ∈ l, oneB r = true := by
  intro l hl
  have := List.all_eq_true.1 h l hl
  simp only [mayB, Bool.and_eq_true] at this
  exact chk_one l (-2) this.2
theorem cutsR_many {xss : List (List Rg)} (h : 256 < xss.length) : cutsR xss = ([], 4) := if_pos h
theorem cutsR_bad {xss : List (List Rg)} (h : ¬ 256 < xss.length) (ha : allM xss = false) : cutsR xss = ([], 8) := by
  unfold cutsR
  rw [if_neg h, if_neg]
  rw [show xss.all mayB = allM xss from rfl, ha]
  decide
theorem cutsR_ok {xss : List (List Rg)} (h : ¬ 256 < xss.length) (ha : allM xss = true) : cutsR xss = (turnsL xss, 0) := by
  unfold cutsR
  rw [if_neg h, if_pos]
  exact ha
set_option maxHeartbeats 4000000 in
theorem cuts_ref (A : Option Addr) (c : Nat) (xss : List (List Rg)) (w : World) {B : Nat} (hx : Sets w B A xss) (hB : B ≤ w.heap.size) (hn : xss.length ≤ 20 ∨ 256 < xss.length) (hl : ∀ l ∈ xss, l.length ≤ 20) :
    Calls Try.prog 6 #[.slice A xss.length c] w (CutsPost w (cutsR xss)) := by
  rcases hn with hn | hn
  · have hno : ¬ 256 < xss.length := by omega
    have hnoI : ¬ (256 : Int) < xss.length := by omega
    have hl2 : ∀ (k : Nat) (h : k < xss.length), xss[k].length ≤ 20 := fun k h => hl _ (List.getElem_mem h)
    have hT := fun (ha : allM xss = true) W (q : Below w.heap.size w W) => turns_ref A c xss W (hx.thru q hB) (Nat.le_trans hB q.size) hn hl (allM_one ha)
    obtain ⟨V, hV⟩ : ∃ V, allM xss = V := ⟨_, rfl⟩
    obtain ⟨R, hR⟩ : ∃ R, cutsR xss = R := ⟨_, rfl⟩
    have hRt : V = true → R = (turnsL xss, 0) := fun h => by rw [← hR]; exact cutsR_ok hno (by rw [hV, h])
    have hRf : V = false → R = ([], 8) := fun h => by rw [← hR]; exact cutsR_bad hno (by rw [hV, h])
    rw [hV] at hT
    rw [hR]
    have HV := Lib.hid hV
    clear hR hV hl hno
    go_enter Try.func6, Try.ntmps6
    go_wp2
    go_loopw [4] (fun i wr => ∃ (k : Nat), k ≤ xss.length ∧ i = .int .i64 k ∧ allM (xss.drop k) = V ∧ Below w.heap.size w wr) (fun i _ => xss.length - (intOf i).toNat)
    case atStart => exact ⟨0, Nat.zero_le _, rfl, by rw [List.drop_zero, HV.out], Below.refl _ _⟩
    case round =>
      obtain ⟨k, hk, rfl, hd, hb⟩ := hrel
      by_cases hlt : k < xss.length
      · obtain ⟨b, off, A1, c1, rfl, hbB, hr1, hg⟩ := (hx.thru hb hB).get hlt
        have hcell := hg wr.heap.size wr (by have := hb.size; omega) (Below.refl _ _)
        have hbs := hb.size
        have hm := may_ref A1 c1 xss[k] wr hr1 (by omega) (by have := hl2 k hlt; unfold maxLen; omega)
        rw [allM_drop hlt] at hd
        obtain ⟨ys, hys⟩ : ∃ ys, xss[k] = ys := ⟨_, rfl⟩
        rw [hys] at hm hd hcell
        obtain ⟨O, hO⟩ : ∃ O, mayB ys = O := ⟨_, rfl⟩
        rw [hO] at hm hd
        have HX := Lib.hid hx
        have HT := Lib.hid hT
        have HL := Lib.hid hl2
        clear hx hT hl2 hg hr1 hys hO
        go_wp2_with fail
        refine hm.mono ?_
        rintro e w1 ⟨rfl, hb1⟩
        have hb2 := hb.trans (hb1.mono hbs)
        clear hm hcell
        cases O
        · have hv : V = false := by rw [← hd]; rfl
          have hRv := hRf hv
          subst hRv
          clear hRf hRt hd
          go_wp2
          go_ret2
          exact ⟨none, 0, rfl, Rd.nil, hb2⟩
        · simp only [Bool.true_and] at hd
          clear hRf hRt
          go_wp2
          exact ⟨⟨k + 1, hlt, by go_num, hd, hb2⟩, by simp [intOf]; omega⟩
      · obtain rfl : k = xss.length := by omega
        rw [List.drop_length] at hd
        have hv : V = true := by rw [← hd]; rfl
        have hRv := hRt hv
        subst hRv
        have hq := hT hv wr hb
        clear hRf hRt hd hT hl2 hx
        go_wp2_with fail
        refine hq.mono ?_
        rintro e w1 ⟨A1, c1, rfl, hc1, hr1, hb1⟩
        clear hq
        go_wp2
        go_ret2
        exact ⟨A1, c1, rfl, hr1, hb.trans (hb1.mono hb.size)⟩
  · have hnI : (256 : Int) < xss.length := by omega
    rw [cutsR_many hn]
    go_enter Try.func6, Try.ntmps6
    go_wp2
    go_ret2
    exact ⟨none, 0, rfl, Rd.nil, Below.refl _ _⟩
end Go.Proofs.Ytlndfkanbibhhaa
