/- The reference's Next, Back. Conditions: at most 2,000,000 bytes. -/
import Derived.Test.YtmaefhnlipcmoaaDoorRefOne
import Derived.Test.YtmaefhnlipcmoaaDoorBoth
namespace Go.Proofs.YtmaefhnlipcmoaaDoor
open Go.RowKit Go.Lib
theorem next_none {s : ByteArray} {i : Nat} (hi : i < s.size) (h : ∀ p k, ¬ At (byt s) s.size i p k) : nextV s (i : Int) = (0, 0, 10) := by
  unfold nextV
  rw [if_neg (by omega), show (i : Int).toNat = i by omega]
  unfold told
  by_cases g : (dec (byt s) s.size i).1 = 65533 ∧ (dec (byt s) s.size i).2 < 3
  · rw [if_pos g]
  · exact absurd (at_of_dec (byt_lt s) hi g) (h _ _)
set_option maxHeartbeats 1000000 in
theorem refnext_any (s : ByteArray) (a : Int) (w : World) (hs : s.size ≤ 2000000) :
    Calls Tryd.prog 75 #[.string s, .int .i64 a] w fun e w' => e = .returned (.tuple #[.int .i64 (nextV s a).1, .int .i64 (nextV s a).2.1, .int .i64 (nextV s a).2.2]) ∧ Below w.heap.size w w' := by
  by_cases h0 : a < 0
  · have e1 : nextV s a = (0, 0, 2) := by simp [nextV, h0]
    rw [e1]
    go_enter Tryd.func75, Tryd.ntmps75
    go_wp2
    go_ret3
    exact ⟨rfl, Below.refl _ _⟩
  · obtain ⟨i, rfl⟩ : ∃ k : Nat, a = (k : Int) := ⟨a.toNat, by omega⟩
    by_cases h1 : i < s.size
    · have hsI : (s.size : Int) ≤ 2000000 := by omega
      have h1I : ¬ (s.size : Int) ≤ i := by omega
      obtain ⟨V, hV⟩ : ∃ V, nextV s (i : Int) = V := ⟨_, rfl⟩
      have HV := Lib.hid hV
      rw [hV]
      clear hV
      go_enter Tryd.func75, Tryd.ntmps75
      go_wp2
      go_loopw [7] (fun z wr => ∃ k : Nat, 1 ≤ k ∧ k ≤ 5 ∧ z = .int .i64 k ∧ (∀ p j, j < k → ¬ At (byt s) s.size i p j) ∧ Below w.heap.size w wr) (fun z _ => 5 - (RowKit.intOf z).toNat)
      case atStart => exact ⟨1, by omega, by omega, rfl, fun p j hj h => by have := h.end_le; omega, Below.refl _ _⟩
      case round =>
        obtain ⟨k, k1, k5, rfl, hnot, hb⟩ := hrel
        by_cases hk : k ≤ 4
        · by_cases hin : i + k ≤ s.size
          · have hc := one_in s i k wr hs k1 hk hin
            cases hO : oneB s i k with
            | true =>
              have hat := (oneB_iff hin).1 hO
              have hv2 := next_of_at hat
              rw [HV.out] at hv2
              rw [hO] at hc
              obtain ⟨x, hx⟩ : ∃ x, numZ s i k = x := ⟨_, rfl⟩
              rw [hx] at hc hv2
              clear hO HV hat hnot hx
              subst hv2
              go_wp2_with fail
              refine hc.mono ?_
              rintro e w2 ⟨rfl, hb2⟩
              go_wp2
              go_ret3
              exact ⟨rfl, hb.trans (hb2.mono hb.size)⟩
            | false =>
              have hnot2 : ∀ p j, j < k + 1 → ¬ At (byt s) s.size i p j := by
                intro p j hj h
                by_cases e : j = k
                · subst e
                  have := (oneB_at h).2
                  rw [hO] at this
                  cases this
                · exact hnot p j (by omega) h
              rw [hO] at hc
              clear hO hnot
              obtain ⟨x, hx⟩ : ∃ x, numZ s i k = x := ⟨_, rfl⟩
              rw [hx] at hc
              clear hx
              have HN := Lib.hid hnot2
              clear hnot2
              go_wp2_with fail
              refine hc.mono ?_
              rintro e w2 ⟨rfl, hb2⟩
              go_wp2
              go_roundw
              case rel => exact ⟨k + 1, by omega, by omega, by go_num, HN.out, hb.trans (hb2.mono hb.size)⟩
              case measure => simp [RowKit.intOf]; omega
          · have hc := one_out s i k wr hs (.inr (by omega)) hk (by omega)
            have hnot2 : ∀ p j, j < k + 1 → ¬ At (byt s) s.size i p j := by
              intro p j hj h
              by_cases e : j = k
              · subst e
                have := h.end_le
                omega
              · exact hnot p j (by omega) h
            clear hnot
            have HN := Lib.hid hnot2
            clear hnot2
            go_wp2_with fail
            refine hc.mono ?_
            rintro e w2 ⟨rfl, rfl⟩
            go_wp2
            go_roundw
            case rel => exact ⟨k + 1, by omega, by omega, by go_num, HN.out, hb⟩
            case measure => simp [RowKit.intOf]; omega
        · have hv2 := next_none h1 (fun p j h => hnot p j (by have := h.end_le; omega) h)
          rw [HV.out] at hv2
          subst hv2
          clear HV hnot
          have hk4 : ¬ (k : Int) ≤ 4 := by omega
          go_wp2
          go_ret3
          exact ⟨rfl, hb⟩
    · have e1 : nextV s (i : Int) = (0, 0, 2) := by
        unfold nextV
        rw [if_pos (by omega)]
      have h2 : (s.size : Int) ≤ i := by omega
      rw [e1]
      go_enter Tryd.func75, Tryd.ntmps75
      go_wp2
      go_ret3
      exact ⟨rfl, Below.refl _ _⟩
end Go.Proofs.YtmaefhnlipcmoaaDoor
