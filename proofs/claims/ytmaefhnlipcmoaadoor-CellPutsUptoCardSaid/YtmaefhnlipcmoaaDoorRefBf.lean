/- provostref03.Behind at a place where nothing stands in the value: what it answers. Conditions: cells whose texts are of at most 2,000,000 bytes. -/
import Derived.Test.YtmaefhnlipcmoaaDoorRefC
namespace Go.Proofs.YtmaefhnlipcmoaaDoor
open Go.RowKit
def nest (c : Cel) : Prop := c.kind = 6 ∨ c.kind = 7
theorem bh_out {xs : List Cel} {a : Nat} (h : xs.length ≤ a) : ∀ d, bh xs d a = none
  | 0 => by unfold bh; rw [List.getElem?_eq_none h]
  | d + 1 => by rw [bh, List.getElem?_eq_none h]
theorem bh_bad {xs : List Cel} {a : Nat} {c : Cel} (h : xs[a]? = some c) (h1 : oneC c = false) : ∀ d, bh xs d a = none
  | 0 => by unfold bh; rw [h]; simp [h1]
  | d + 1 => by rw [bh, h]; simp [h1]
theorem bh_leaf {xs : List Cel} {a : Nat} {c : Cel} (h : xs[a]? = some c) (h1 : oneC c = true) (h2 : ¬ nest c) : ∀ d, bh xs d a = some (a + 1)
  | 0 => by
    unfold bh
    rw [h]
    simp only
    rw [if_pos ⟨h1, h2⟩]
  | d + 1 => by
    rw [bh, h]
    simp only
    rw [if_pos h1, if_neg (show ¬ (c.kind = 6 ∨ c.kind = 7) from h2)]
theorem bh_deep {xs : List Cel} {a : Nat} {c : Cel} (h : xs[a]? = some c) (h2 : nest c) : bh xs 0 a = none := by
  unfold bh
  rw [h]
  simp only
  rw [if_neg (fun g => g.2 h2)]
theorem bh_nest {xs : List Cel} {a : Nat} {c : Cel} (h : xs[a]? = some c) (h1 : oneC c = true) (h2 : nest c) (d : Nat) : bh xs (d + 1) a = loop (bh xs d) xs c.kind c.many.toNat (a + 1) [] := by
  rw [bh, h]
  simp only
  rw [if_pos h1, if_pos (show c.kind = 6 ∨ c.kind = 7 from h2)]
theorem Rd.cel1 {w : World} {B : Nat} {A : Option Addr} {xs : List Cel} (h : Rd w B A (cv xs)) {k : Nat} {c : Cel} (hk : xs[k]? = some c) :
    ∃ b off, A = some ⟨b, off, none⟩ ∧ b < B ∧ CelAt w b (off + k * 5) c := by
  obtain ⟨hl, rfl⟩ := List.getElem?_eq_some_iff.1 hk
  obtain ⟨b, off, e, hb, hc⟩ := h.cel hl
  exact ⟨b, off, e, hb, hc k hl⟩
set_option maxHeartbeats 2000000 in
theorem behind_out {xs : List Cel} (A : Option Addr) (cap : Nat) (d a : Nat) (w : World) (h : xs.length ≤ a) :
    Calls Tryd.prog 43 #[.slice A xs.length cap, .int .i64 a, .int .i64 d] w fun e w' => e = .returned (.int .i64 (ans (bh xs d a))) ∧ Below w.heap.size w w' := by
  rw [bh_out h]
  have h1 : (xs.length : Int) ≤ a := by omega
  go_enter Tryd.func43, Tryd.ntmps43
  go_wp2
  go_ret
  exact ⟨rfl, Below.refl _ _⟩
set_option maxHeartbeats 2000000 in
theorem behind_flat {xs : List Cel} {c : Cel} (A : Option Addr) (cap : Nat) (d a : Nat) (w : World) {B : Nat} (hx : Rd w B A (cv xs)) (hB : B ≤ w.heap.size) (hn : xs.length ≤ 1000000) (h : xs[a]? = some c) (hc : CelW 2000000 c) (hf : oneC c = false ∨ ¬ nest c ∨ d = 0) :
    Calls Tryd.prog 43 #[.slice A xs.length cap, .int .i64 a, .int .i64 d] w fun e w' => e = .returned (.int .i64 (ans (bh xs d a))) ∧ Below w.heap.size w w' := by
  obtain ⟨b, off, rfl, hb, c0, c1, c2, c3, c4⟩ := hx.cel1 h
  have hl := (List.getElem?_eq_some_iff.1 h).1
  have hlI : (a : Int) < xs.length := by omega
  have hk8 := hc.kind
  obtain ⟨V, hV⟩ : ∃ V, bh xs d a = V := ⟨_, rfl⟩
  rw [hV]
  cases ho : oneC c with
  | false =>
    rw [bh_bad h ho] at hV
    subst hV
    go_enter Tryd.func43, Tryd.ntmps43
    go_wp2_with fail
    refine (one_ref c _ hc).mono ?_
    rw [ho]
    clear ho hf
    rintro e w1 ⟨rfl, hb1⟩
    go_wp2
    go_ret
    exact ⟨rfl, hb1⟩
  | true =>
    by_cases hk : nest c
    · obtain rfl : d = 0 := by
        rcases hf with hf | hf | hf
        · rw [ho] at hf; cases hf
        · exact absurd hk hf
        · exact hf
      rw [bh_deep h hk] at hV
      subst hV
      go_enter Tryd.func43, Tryd.ntmps43
      go_wp2_with fail
      refine (one_ref c _ hc).mono ?_
      rw [ho]
      clear ho hf
      rintro e w1 ⟨rfl, hb1⟩
      have d0 := (hb1.cell (p := ⟨b, off + a * 5, none⟩) (by show b < w.heap.size; omega)).trans c0
      have d1 := (hb1.cell (p := ⟨b, off + a * 5 + 1, none⟩) (by show b < w.heap.size; omega)).trans c1
      have d2 := (hb1.cell (p := ⟨b, off + a * 5 + 2, none⟩) (by show b < w.heap.size; omega)).trans c2
      have d3 := (hb1.cell (p := ⟨b, off + a * 5 + 3, none⟩) (by show b < w.heap.size; omega)).trans c3
      have d4 := (hb1.cell (p := ⟨b, off + a * 5 + 4, none⟩) (by show b < w.heap.size; omega)).trans c4
      clear c0 c1 c2 c3 c4
      rcases hk with hk | hk <;> rw [hk] at d0
      · go_wp2
        go_ret
        exact ⟨rfl, hb1.alloc hb1.size _⟩
      · go_wp2
        go_ret
        exact ⟨rfl, hb1.alloc hb1.size _⟩
    · rw [bh_leaf h ho hk] at hV
      subst hV
      go_enter Tryd.func43, Tryd.ntmps43
      go_wp2_with fail
      refine (one_ref c _ hc).mono ?_
      rw [ho]
      clear ho hf
      rintro e w1 ⟨rfl, hb1⟩
      have d0 := (hb1.cell (p := ⟨b, off + a * 5, none⟩) (by show b < w.heap.size; omega)).trans c0
      have d1 := (hb1.cell (p := ⟨b, off + a * 5 + 1, none⟩) (by show b < w.heap.size; omega)).trans c1
      have d2 := (hb1.cell (p := ⟨b, off + a * 5 + 2, none⟩) (by show b < w.heap.size; omega)).trans c2
      have d3 := (hb1.cell (p := ⟨b, off + a * 5 + 3, none⟩) (by show b < w.heap.size; omega)).trans c3
      have d4 := (hb1.cell (p := ⟨b, off + a * 5 + 4, none⟩) (by show b < w.heap.size; omega)).trans c4
      clear c0 c1 c2 c3 c4
      have hk6 : ((c.kind : Int) != 6) = true := bne_iff_ne.2 (fun e => hk (.inl (by omega)))
      have hk7 : ((c.kind : Int) != 7) = true := bne_iff_ne.2 (fun e => hk (.inr (by omega)))
      clear hk
      go_wp2
      go_ret
      exact ⟨ret_int (by simp [ans]), hb1.alloc hb1.size _⟩
end Go.Proofs.YtmaefhnlipcmoaaDoor
