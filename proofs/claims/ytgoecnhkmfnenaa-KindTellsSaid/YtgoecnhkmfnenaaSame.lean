/- The reference's SameType, and the text of a slice of bytes: are two types one? Conditions: lengths within the model's. -/
import Derived.Test.YtgoecnhkmfnenaaKAlive
import Derived.Shelf.Bytes.SlSmallAll
namespace Go.Proofs.Ytgoecnhkmfnenaa
open Go.RowKit
theorem rd_text {w : World} {B : Nat} {A : Option Addr} {ws : List UInt8} {c : Nat} (h : Rd w B A (bv ws)) :
    (convert 22 9 (.slice A ws.length c)).run Try.prog w = .ok (.string ⟨ws.toArray⟩) w := by
  have hz : strOfNums (ws.map fun b => (b.toNat : Int)) = ⟨ws.toArray⟩ := by
    unfold strOfNums
    congr 1
    rw [List.map_map]
    congr 1
    rw [show ((fun n : Int => UInt8.ofNat n.toNat) ∘ fun b : UInt8 => (b.toNat : Int)) = id from funext fun b => by simp, List.map_id]
  rcases h with h0 | ⟨b, off, rfl, _, hc⟩
  · obtain rfl : ws = [] := by simpa [bv] using h0
    exact run_convert_bytes_zero w _ _ Try.underlying22 Try.underlying5 A c _ Try.underlying9
  · rw [← hz]
    exact run_convert_bytes_arg w _ _ Try.underlying22 Try.underlying5 b off ws.length c (ws.map fun b => (b.toNat : Int)) (by simp) (fun i hi => by rw [hc i (by simpa [bv] using hi)]; simp [bv, List.getD, List.getElem?_eq_getElem hi]) _ Try.underlying9
theorem same_any (na nb : ByteArray) (A A2 : Option Addr) (c c2 : Nat) (fa tb : List UInt8) (w : World) {B : Nat} (hx : Rd w B A (bv fa)) (hy : Rd w B A2 (bv tb)) (hB : B ≤ w.heap.size) :
    Calls Try.prog 11 #[.agg #[.string na, .slice A fa.length c], .agg #[.string nb, .slice A2 tb.length c2]] w fun e w' => e = .returned (.bool (decide (na = nb) && decide (fa = tb))) ∧ Below w.heap.size w w' := by
  have hb0 : Below w.heap.size w ((w.alloc (.cells #[.string na, .slice A fa.length c] 24)).alloc (.cells #[.string nb, .slice A2 tb.length c2] 24)) := ((Below.refl _ _).alloc (Nat.le_refl _) _).alloc (by simp) _
  have hx2 := rd_text (c := c) (Rd.via hb0 hx hB)
  have hy2 := rd_text (c := c2) (Rd.via hb0 hy hB)
  go_enter Try.func11, Try.ntmps11
  by_cases h : na = nb
  · subst h
    go_wp2
    go_ret
    exact ⟨ret_bool (by first | rfl | (simp; done) | (rw [Bool.eq_iff_iff]; simp)), hb0⟩
  · have h' : (na.toList == nb.toList) = false := by rw [ba_beq]; simpa using h
    go_wp2
    go_ret
    exact ⟨ret_bool (by simp [h]), hb0⟩
end Go.Proofs.Ytgoecnhkmfnenaa
