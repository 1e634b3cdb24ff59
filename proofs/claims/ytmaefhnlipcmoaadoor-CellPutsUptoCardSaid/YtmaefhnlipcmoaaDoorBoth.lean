/- What Next takes in, Back takes in: plain laws. Conditions: none. -/
import Derived.Test.YtmaefhnlipcmoaaDoorTab
namespace Go.Proofs.YtmaefhnlipcmoaaDoor
open Go.RowKit
theorem told_ok {d : Nat × Nat} {p n : Nat} (h : told d = (p, n, 0)) : d = (p, n) ∧ ¬ (p = 65533 ∧ n < 3) := by
  unfold told at h
  split at h
  · simp at h
  · rename_i g
    simp only [Prod.mk.injEq] at h
    obtain ⟨rfl, rfl, _⟩ := h
    exact ⟨rfl, g⟩
theorem told_of {p n : Nat} (h : ¬ (p = 65533 ∧ n < 3)) : told (p, n) = (p, n, 0) := by
  unfold told
  rw [if_neg h]
theorem at_of_next {s : ByteArray} {a : Int} {p n : Nat} (h : nextV s a = (p, n, 0)) : 0 ≤ a ∧ a < s.size ∧ At (byt s) s.size a.toNat p n := by
  unfold nextV at h
  split at h
  · simp at h
  · obtain ⟨h1, h2⟩ := told_ok h
    refine ⟨by omega, by omega, ?_⟩
    have := at_of_dec (B := byt s) (n := s.size) (i := a.toNat) (byt_lt s) (by omega) (by rw [h1]; exact h2)
    rwa [h1] at this
theorem next_of_at {s : ByteArray} {i p n : Nat} (h : At (byt s) s.size i p n) : nextV s (i : Int) = (p, n, 0) := by
  have := h.end_le
  unfold nextV
  rw [if_neg (by omega), show (i : Int).toNat = i by omega, dec_of_at h]
  exact told_of h.not_err
theorem at_of_back {s : ByteArray} {a : Int} {p n : Nat} (h : backV s a = (p, n, 0)) : 1 ≤ a ∧ a ≤ s.size ∧ (n : Int) ≤ a ∧ At (byt s) s.size (a.toNat - n) p n := by
  unfold backV at h
  split at h
  · simp at h
  · obtain ⟨h1, h2⟩ := told_ok h
    have := at_of_decLast (B := byt s) (e := a.toNat) (byt_lt s) (by omega) (by rw [h1]; exact h2)
    rw [h1] at this
    have hl := this.end_le
    simp only at this hl
    refine ⟨by omega, by omega, by omega, ?_⟩
    rcases this with ⟨e, h⟩ | ⟨e, h⟩ | ⟨e, h⟩ | ⟨e, h⟩
    · exact .inl ⟨e, h.1, by omega, h.2.2⟩
    · exact .inr (.inl ⟨e, h.1, h.2.1, by omega, h.2.2.2⟩)
    · exact .inr (.inr (.inl ⟨e, h.1, h.2.1, h.2.2.1, by omega, h.2.2.2.2⟩))
    · exact .inr (.inr (.inr ⟨e, h.1, h.2.1, by omega, h.2.2.2⟩))
theorem back_of_at {s : ByteArray} {i p n : Nat} (h : At (byt s) s.size i p n) : backV s ((i : Int) + n) = (p, n, 0) := by
  have := h.end_le
  unfold backV
  rw [if_neg (by omega), show ((i : Int) + n).toNat = i + n by omega, decLast_of_at h rfl]
  exact told_of h.not_err
end Go.Proofs.YtmaefhnlipcmoaaDoor
