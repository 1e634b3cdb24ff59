/- provostref03.Behind, May, Check, asked, End: what they answer. Conditions: cells whose texts are of at most 2,000,000 bytes; at most 1,000,000 cells. -/
import Derived.Test.YtmaefhnlipcmoaaDoorRefBn
namespace Go.Proofs.YtmaefhnlipcmoaaDoor
open Go.RowKit
theorem behind_ref {xs : List Cel} (A : Option Addr) (cap : Nat) (hn : xs.length ≤ 1000000) (hW : ∀ c ∈ xs, CelW 2000000 c) : ∀ (d : Nat), d ≤ 1000000 → ∀ (a : Nat) (w : World) {B : Nat}, Rd w B A (cv xs) → B ≤ w.heap.size → a ≤ xs.length →
    Calls Tryd.prog 43 #[.slice A xs.length cap, .int .i64 a, .int .i64 d] w fun e w' => e = .returned (.int .i64 (ans (bh xs d a))) ∧ Below w.heap.size w w' := by
  intro d
  induction d with
  | zero =>
    intro hd a w B hx hB ha
    cases h : xs[a]? with
    | none => exact behind_out A cap 0 a w (List.getElem?_eq_none_iff.1 h)
    | some c => exact behind_flat A cap 0 a w hx hB hn h (hW c (List.mem_of_getElem? h)) (.inr (.inr rfl))
  | succ d ih =>
    intro hd a w B hx hB ha
    cases h : xs[a]? with
    | none => exact behind_out A cap (d + 1) a w (List.getElem?_eq_none_iff.1 h)
    | some c =>
      have hc := hW c (List.mem_of_getElem? h)
      cases ho : oneC c with
      | false => exact behind_flat A cap (d + 1) a w hx hB hn h hc (.inl ho)
      | true =>
        by_cases h6 : c.kind = 6
        · exact behind_6 A cap d a (fun q w B h1 h2 h3 => ih (by omega) q w h1 h2 h3) w hx hB hn (by omega) h hW ho h6
        · by_cases h7 : c.kind = 7
          · exact behind_7 A cap d a (fun q w B h1 h2 h3 => ih (by omega) q w h1 h2 h3) w hx hB hn (by omega) h hW ho h7
          · exact behind_flat A cap (d + 1) a w hx hB hn h hc (.inr (.inl (fun g => g.elim h6 h7)))
theorem ans_len (o : Option Nat) (n : Nat) : (ans o == (n : Int)) = decide (o = some n) := by
  rw [beqD]
  cases o with
  | none => simp [ans]
  | some m =>
    by_cases h : m = n
    · subst h; simp [ans]
    · rw [decide_eq_false (fun g => h (Option.some.inj g)), decide_eq_false (fun g => h (by simp only [ans] at g; omega))]
theorem mayC_nil : mayC [] = false := rfl
theorem mayC_cons (c : Cel) (r : List Cel) : mayC (c :: r) = (decide ((c :: r).length ≤ 2048) && decide (c.name = e0) && decide (bh (c :: r) 16 0 = some (c :: r).length)) := by
  simp [mayC]
set_option maxRecDepth 100000 in
set_option maxHeartbeats 2000000 in
theorem may_ref {xs : List Cel} (A : Option Addr) (cap : Nat) (w : World) {B : Nat} (hx : Rd w B A (cv xs)) (hB : B ≤ w.heap.size) (hn : xs.length ≤ 1000000) (hW : ∀ c ∈ xs, CelW 2000000 c) :
    Calls Tryd.prog 48 #[.slice A xs.length cap] w fun e w' => e = .returned (.bool (mayC xs)) ∧ Below w.heap.size w w' := by
  cases xs with
  | nil =>
    rw [mayC_nil]
    go_enter Tryd.func48, Tryd.ntmps48
    go_wp2
    go_ret
    exact ⟨rfl, Below.refl _ _⟩
  | cons c r =>
    obtain ⟨b, off, rfl, hb, _, n1, _⟩ := hx.cel1 (k := 0) (c := c) rfl
    obtain ⟨V, hV⟩ : ∃ V, mayC (c :: r) = V := ⟨_, rfl⟩
    rw [hV]
    rw [mayC_cons] at hV
    have hcb := behind_ref (some ⟨b, off, none⟩) cap hn hW 16 (by omega) 0 w hx hB (Nat.zero_le _)
    have hq := ans_len (bh (c :: r) 16 0) (c :: r).length
    have hpos : 0 < (c :: r).length := by simp
    obtain ⟨n, hN⟩ : ∃ n, (c :: r).length = n := ⟨_, rfl⟩
    rw [hN] at hV hcb hn hq hpos ⊢
    obtain ⟨v, hv⟩ : ∃ v, ans (bh (c :: r) 16 0) = v := ⟨_, rfl⟩
    rw [hv] at hcb hq
    rw [← hq] at hV
    simp only [Nat.zero_mul, Nat.add_zero] at n1
    obtain ⟨nm, hnm⟩ : ∃ nm, c.name = nm := ⟨_, rfl⟩
    rw [hnm] at hV n1
    rw [e0_isE] at hV
    have hpI : (0 : Int) < n := by omega
    clear hnm hN hx hW hv hq
    by_cases h2 : n ≤ 2048
    · have h2I : (n : Int) ≤ 2048 := by omega
      rw [decide_eq_true h2, Bool.true_and] at hV
      cases hE : nm.toList.isEmpty with
      | false =>
        rw [hE, Bool.false_and] at hV
        subst hV
        clear hcb
        go_enter Tryd.func48, Tryd.ntmps48
        go_wp2
        go_ret
        exact ⟨rfl, Below.refl _ _⟩
      | true =>
        rw [hE, Bool.true_and] at hV
        subst hV
        go_enter Tryd.func48, Tryd.ntmps48
        go_wp2_with fail
        refine hcb.mono ?_
        rintro e w1 ⟨rfl, hb1⟩
        go_wp2
        go_ret
        exact ⟨rfl, hb1⟩
    · have h2I : ¬ (n : Int) ≤ 2048 := by omega
      rw [decide_eq_false h2] at hV
      simp only [Bool.false_and] at hV
      subst hV
      clear hcb
      go_enter Tryd.func48, Tryd.ntmps48
      go_wp2
      go_ret
      exact ⟨rfl, Below.refl _ _⟩
def checkC (xs : List Cel) : Int := if mayC xs = true then 0 else 8
theorem check_ref {xs : List Cel} (A : Option Addr) (cap : Nat) (w : World) {B : Nat} (hx : Rd w B A (cv xs)) (hB : B ≤ w.heap.size) (hn : xs.length ≤ 1000000) (hW : ∀ c ∈ xs, CelW 2000000 c) :
    Calls Tryd.prog 27 #[.slice A xs.length cap] w fun e w' => e = .returned (.int .i64 (checkC xs)) ∧ Below w.heap.size w w' := by
  have hm := may_ref A cap w hx hB hn hW
  unfold checkC
  cases hV : mayC xs <;> rw [hV] at hm
  · go_enter Tryd.func27, Tryd.ntmps27
    go_wp2_with fail
    refine hm.mono ?_
    rintro e w1 ⟨rfl, hb1⟩
    go_wp2
    go_ret
    exact ⟨rfl, hb1⟩
  · go_enter Tryd.func27, Tryd.ntmps27
    go_wp2_with fail
    refine hm.mono ?_
    rintro e w1 ⟨rfl, hb1⟩
    go_wp2
    go_ret
    exact ⟨rfl, hb1⟩
/-- the error of a value and a place -/
def askedC (xs : List Cel) (a : Int) : Int := if mayC xs = true then (if 0 ≤ a ∧ a < xs.length then 0 else 2) else 8
set_option maxHeartbeats 2000000 in
theorem asked_ref {xs : List Cel} (A : Option Addr) (cap : Nat) (a : Int) (w : World) {B : Nat} (hx : Rd w B A (cv xs)) (hB : B ≤ w.heap.size) (hn : xs.length ≤ 1000000) (hW : ∀ c ∈ xs, CelW 2000000 c) :
    Calls Tryd.prog 42 #[.slice A xs.length cap, .int .i64 a] w fun e w' => e = .returned (.int .i64 (askedC xs a)) ∧ Below w.heap.size w w' := by
  have hm := may_ref A cap w hx hB hn hW
  unfold askedC
  cases hV : mayC xs <;> rw [hV] at hm
  · go_enter Tryd.func42, Tryd.ntmps42
    go_wp2_with fail
    refine hm.mono ?_
    rintro e w1 ⟨rfl, hb1⟩
    go_wp2
    go_ret
    exact ⟨rfl, hb1⟩
  · rw [if_pos rfl]
    by_cases h0 : 0 ≤ a
    · have g0 : decide (a < 0) = false := by simp; omega
      by_cases h1 : a < xs.length
      · have g1 : decide ((xs.length : Int) ≤ a) = false := by simp; omega
        rw [if_pos ⟨h0, h1⟩]
        go_enter Tryd.func42, Tryd.ntmps42
        go_wp2_with fail
        refine hm.mono ?_
        rintro e w1 ⟨rfl, hb1⟩
        go_wp2
        go_ret
        exact ⟨rfl, hb1⟩
      · have g1 : decide ((xs.length : Int) ≤ a) = true := by simp; omega
        rw [if_neg (fun h => h1 h.2)]
        go_enter Tryd.func42, Tryd.ntmps42
        go_wp2_with fail
        refine hm.mono ?_
        rintro e w1 ⟨rfl, hb1⟩
        go_wp2
        go_ret
        exact ⟨rfl, hb1⟩
    · have g0 : decide (a < 0) = true := by simp; omega
      rw [if_neg (fun h => h0 h.1)]
      go_enter Tryd.func42, Tryd.ntmps42
      go_wp2_with fail
      refine hm.mono ?_
      rintro e w1 ⟨rfl, hb1⟩
      go_wp2
      go_ret
      exact ⟨rfl, hb1⟩
end Go.Proofs.YtmaefhnlipcmoaaDoor
