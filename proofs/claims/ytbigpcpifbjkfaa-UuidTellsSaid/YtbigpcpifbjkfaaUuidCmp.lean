/- uuid.Compare and the reference's: the order of two rows of sixteen bytes. Conditions: sixteen each, bytes. -/
import Derived.Test.YtbigpcpifbjkfaaUuidText
import Derived.Lib.BytesEntry
import Derived.Lib.Bytealg
import Derived.WalkLawsBesides
import Derived.BigQuiet
import Derived.Deep.QuietTactic
import Derived.Deep.RegionHeld3
namespace Go.Proofs.Ytbigpcpifbjkfaa
open Go.RowKit Go.ChangeShapes Go.WideShapes Go.ChangeAt
def cmpI : List Int → List Int → Int
  | [], [] => 0
  | [], _ :: _ => -1
  | _ :: _, [] => 1
  | a :: xs, b :: ys => if a < b then -1 else if b < a then 1 else cmpI xs ys
theorem cmp_bytes : ∀ (a b : List Int), (∀ x ∈ a, 0 ≤ x ∧ x < 256) → (∀ x ∈ b, 0 ≤ x ∧ x < 256) → Lib.compareBytes (Lib.bytesOf a) (Lib.bytesOf b) = cmpI a b
  | [], [], _, _ => rfl
  | [], _ :: _, _, _ => rfl
  | _ :: _, [], _, _ => rfl
  | a :: xs, b :: ys, ha, hb => by
    have h1 := ha a (by simp)
    have h2 := hb b (by simp)
    have ih := cmp_bytes xs ys (fun x hx => ha x (by simp [hx])) (fun x hx => hb x (by simp [hx]))
    have e : ∀ x y : Int, 0 ≤ x ∧ x < 256 → 0 ≤ y ∧ y < 256 → (x.toNat.toUInt8 < y.toNat.toUInt8 ↔ x < y) := by
      intro x y hx hy
      rw [UInt8.lt_iff_toNat_lt]
      simp [UInt8.toNat_ofNat']
      omega
    simp only [Lib.bytesOf, List.map_cons, Lib.compareBytes, cmpI, e a b h1 h2, e b a h2 h1]
    unfold Lib.bytesOf at ih
    rw [ih]
theorem run_cmp {P : Program} (a b : Nat) (xs ys : List Int) (w : World) (ta tb : TypeId) (ha : w.heap[a]? = some (.cells (av xs) ta)) (hb : w.heap[b]? = some (.cells (av ys) tb)) (h1 : xs.length = 16) (h2 : ys.length = 16) :
    (Extern.BytealgCompare.compare #[.slice (some ⟨a, 0, none⟩) 16 16, .slice (some ⟨b, 0, none⟩) 16 16]).run P w = .ok (.int .i64 (Lib.compareBytes (Lib.bytesOf xs) (Lib.bytesOf ys))) w := by
  have l : ∀ (c : Nat) (cs : List Int) (t : TypeId), w.heap[c]? = some (.cells (av cs) t) → cs.length = 16 → (Extern.Bytes.loadBytes ⟨c, 0, none⟩ 16 .empty).run P w = .ok ⟨(Lib.bytesOf cs).toArray⟩ w := by
    intro c cs t hc hl
    have := Lib.run_loadBytesX (P := P) w cs ⟨c, 0, none⟩ .empty (fun j x hj => by
      have hjl : j < cs.length := (List.getElem?_eq_some_iff.1 hj).1
      rw [add_plain, Nat.zero_add, av_cell hc j hjl, List.getD_eq_getElem?_getD, hj]
      rfl)
    rw [hl] at this
    rw [this]
    simp
  change Sem.run P (do pure (goInt (Extern.BytealgCompare.cmp (← Extern.Bytes.loadBytes ⟨a, 0, none⟩ 16 .empty) (← Extern.Bytes.loadBytes ⟨b, 0, none⟩ 16 .empty)))) w = _
  simp only [Sem.run_bind, Sem.run_pure, Result.andThen, l a xs ta ha h1, l b ys tb hb h2]
  rw [Lib.cmp_eq]
  rfl
theorem bytescompare_any (a b : Nat) (xs ys : List Int) (w : World) (ta tb : TypeId) (ha : w.heap[a]? = some (.cells (av xs) ta)) (hb : w.heap[b]? = some (.cells (av ys) tb)) (h1 : xs.length = 16) (h2 : ys.length = 16) (ha9 : ∀ x ∈ xs, 0 ≤ x ∧ x < 256) (hb9 : ∀ x ∈ ys, 0 ≤ x ∧ x < 256) :
    Calls Try.prog 17 #[.slice (some ⟨a, 0, none⟩) 16 16, .slice (some ⟨b, 0, none⟩) 16 16] w fun e w' => e = .returned (.int .i64 (cmpI xs ys)) ∧ w' = w := by
  go_enter Try.func17, Try.ntmps17
  go_wp2
  rw [run_callFunc_extern Try.func21 (by kernel_rfl) (by kernel_rfl) (by kernel_rfl) (e := Extern.BytealgCompare.compare) (by kernel_rfl), run_cmp a b xs ys w ta tb ha hb h1 h2, cmp_bytes xs ys ha9 hb9]
  simp only [Result.andThen]
  rw [Oper.upon_value]
  go_wp2
  go_ret
  exact ⟨rfl, rfl⟩
theorem two_boxes (w : World) (xs ys : List Int) (t : TypeId) : let W := (w.alloc (.cells (av xs) t)).alloc (.cells (av ys) t)
    W.heap.size = w.heap.size + 2 ∧ Below w.heap.size w W ∧ W.heap[w.heap.size]? = some (.cells (av xs) t) ∧ W.heap[w.heap.size + 1]? = some (.cells (av ys) t) := by
  have h1 : (w.alloc (.cells (av xs) t)).heap.size = w.heap.size + 1 := by simp
  refine ⟨by simp, ((Below.refl _ _).alloc (Nat.le_refl _) _).alloc (by omega) _, ?_, ?_⟩
  · rw [((Below.refl (w.heap.size + 1) (w.alloc (.cells (av xs) t))).alloc (by omega) _).block _ (by omega)]
    exact heap_alloc_new _ _
  · rw [← h1]
    exact heap_alloc_new _ _
theorem compare_any (xs ys : List Int) (w : World) (ha : xs.length = 16) (hb : ys.length = 16) (ha9 : ∀ x ∈ xs, 0 ≤ x ∧ x < 256) (hb9 : ∀ x ∈ ys, 0 ≤ x ∧ x < 256) :
    Calls Try.prog 8 #[.agg (av xs), .agg (av ys)] w fun e w' => e = .returned (.int .i64 (cmpI xs ys)) ∧ Below w.heap.size w w' := by
  obtain ⟨hz, hb0, c1, c2⟩ := two_boxes w xs ys 22
  have d1 : ((w.alloc (.cells (av xs) 22)).alloc (.cells (av ys) 22)).drew.heap[w.heap.size]? = some (.cells (av xs) 22) := c1
  have d2 : ((w.alloc (.cells (av xs) 22)).alloc (.cells (av ys) 22)).drew.heap[w.heap.size + 1]? = some (.cells (av ys) 22) := c2
  go_enter Try.func8, Try.ntmps8
  go_wp2
  go_region_with (go_at_call 17; refine (bytescompare_any w.heap.size (w.heap.size + 1) xs ys _ 22 22 ?h1 ?h2 ha hb ha9 hb9).mono ?_; (case h1 => exact d1); (case h2 => exact d2); rintro e w3 ⟨rfl, rfl⟩)
  all_goals go_wp2
  all_goals go_ret
  all_goals exact ⟨rfl, hb0.drew⟩
theorem cmp_step (xs ys : List Int) (k : Nat) (h1 : k < xs.length) (h2 : k < ys.length) :
    cmpI (xs.drop k) (ys.drop k) = if xs.getD k 0 < ys.getD k 0 then -1 else if ys.getD k 0 < xs.getD k 0 then 1 else cmpI (xs.drop (k + 1)) (ys.drop (k + 1)) := by
  rw [List.drop_eq_getElem_cons h1, List.drop_eq_getElem_cons h2]
  simp [cmpI, List.getD, List.getElem?_eq_getElem h1, List.getElem?_eq_getElem h2]
theorem refcompare_any (xs ys : List Int) (w : World) (ha : xs.length = 16) (hb : ys.length = 16) (ha9 : ∀ x ∈ xs, 0 ≤ x ∧ x < 256) (hb9 : ∀ x ∈ ys, 0 ≤ x ∧ x < 256) :
    Calls Try.prog 16 #[.agg (av xs), .agg (av ys)] w fun e w' => e = .returned (.int .i64 (cmpI xs ys)) ∧ Below w.heap.size w w' := by
  obtain ⟨hz, hb0, c1, c2⟩ := two_boxes w xs ys 22
  go_enter Try.func16, Try.ntmps16
  go_wp2
  go_loopw [5] (fun i wr => ∃ k : Nat, k ≤ 16 ∧ i = .int .i64 k ∧ cmpI xs ys = cmpI (xs.drop k) (ys.drop k) ∧ Below (w.heap.size + 2) ((w.alloc (.cells (av xs) 22)).alloc (.cells (av ys) 22)) wr) (fun i _ => 16 - (intOf i).toNat)
  case atStart => exact ⟨0, by omega, rfl, rfl, Below.refl _ _⟩
  case round =>
    obtain ⟨k, hk, rfl, hcmp, hbr⟩ := hrel
    by_cases hlt : k < 16
    · have e1 : wr.heap[w.heap.size]? = some (.cells (av xs) 22) := by rw [hbr.block _ (by omega)]; exact c1
      have e2 : wr.heap[w.heap.size + 1]? = some (.cells (av ys) 22) := by rw [hbr.block _ (by omega)]; exact c2
      have q1 := av_cell e1 k (by omega)
      have q2 := av_cell e2 k (by omega)
      rw [cmp_step xs ys k (by omega) (by omega)] at hcmp
      obtain ⟨x, hx⟩ : ∃ x, xs.getD k 0 = x := ⟨_, rfl⟩
      obtain ⟨y, hy⟩ : ∃ y, ys.getD k 0 = y := ⟨_, rfl⟩
      rw [hx] at q1 hcmp
      rw [hy] at q2 hcmp
      have q1' : wr.drew.cell? ⟨w.heap.size, k, none⟩ = some (.int .u8 x) := q1
      have q2' : wr.drew.cell? ⟨w.heap.size + 1, k, none⟩ = some (.int .u8 y) := q2
      have hfin : Below w.heap.size w wr := hb0.trans (hbr.mono (by omega))
      clear hz hb0 c1 c2 hx hy e1 e2
      go_wp2
      go_region
      by_cases h1 : x < y
      · go_wp2
        go_ret
        rw [if_pos h1] at hcmp
        exact ⟨ret_int hcmp.symm, hfin.drew⟩
      · rw [if_neg h1] at hcmp
        go_wp2
        go_region
        by_cases h2 : y < x
        · go_wp2
          go_ret
          rw [if_pos h2] at hcmp
          exact ⟨ret_int hcmp.symm, hfin.drew.drew⟩
        · rw [if_neg h2] at hcmp
          go_wp2
          exact ⟨⟨k + 1, hlt, by go_num, hcmp, hbr.drew.drew⟩, by simp [intOf]; omega⟩
    · obtain rfl : k = 16 := by omega
      go_wp2
      go_ret
      refine ⟨ret_int ?_, hb0.trans (hbr.mono (by omega))⟩
      rw [hcmp, List.drop_of_length_le (by omega), List.drop_of_length_le (by omega)]
      rfl
end Go.Proofs.Ytbigpcpifbjkfaa
