/- The reference's One: do so many bytes tell a code point? Conditions: a place within the text. -/
import Derived.Test.YtmaefhnlipcmoaaDoorRefNum
import Derived.Deep.RegionHeld3
namespace Go.Proofs.YtmaefhnlipcmoaaDoor
open Go.RowKit Go.Lib
theorem ba_byt {a b : ByteArray} (hs : a.size = b.size) (h : ∀ j, j < a.size → byt a j = byt b j) : a = b := by
  apply ByteArray.ext
  apply Array.ext hs
  intro j h1 h2
  have := h j h1
  rw [byt_get a j h1, byt_get b j h2] at this
  exact UInt8.toNat_inj.1 this
theorem At.shift {B B' : Nat → Nat} {n n' i i' p k : Nat} (h : At B n i p k) (hb : ∀ t, t < k → B' (i' + t) = B (i + t)) (hn : i' + k ≤ n') : At B' n' i' p k := by
  rcases h with ⟨rfl, h⟩ | ⟨rfl, h⟩ | ⟨rfl, h⟩ | ⟨rfl, h⟩
  · have b0 := hb 0 (by omega)
    rw [Nat.add_zero, Nat.add_zero] at b0
    exact .inl ⟨rfl, h.1, hn, by omega⟩
  · have b0 := hb 0 (by omega)
    have b1 := hb 1 (by omega)
    rw [Nat.add_zero, Nat.add_zero] at b0
    exact .inr (.inl ⟨rfl, by omega, by omega, hn, by omega, by omega⟩)
  · have b0 := hb 0 (by omega)
    have b1 := hb 1 (by omega)
    have b2 := hb 2 (by omega)
    rw [Nat.add_zero, Nat.add_zero] at b0
    exact .inr (.inr (.inl ⟨rfl, by omega, by omega, by omega, hn, by omega, by omega, by omega⟩))
  · have b0 := hb 0 (by omega)
    have b1 := hb 1 (by omega)
    have b2 := hb 2 (by omega)
    have b3 := hb 3 (by omega)
    rw [Nat.add_zero, Nat.add_zero] at b0
    exact .inr (.inr (.inr ⟨rfl, by omega, by omega, hn, by omega, by omega, by omega, by omega⟩))
theorem size_cut (s : ByteArray) (i k : Nat) (h : i + k ≤ s.size) : (s.extract i (i + k)).size = k := by
  rw [← size_data, extract_list, List.length_drop, List.length_take, size_data]
  omega
theorem byt_cut (s : ByteArray) (i k j : Nat) (hj : j < k) : byt (s.extract i (i + k)) j = byt s (i + j) := by
  rw [byt_data, byt_data, extract_list]
  simp only [List.getD_eq_getElem?_getD, List.getElem?_drop, List.getElem?_take]
  rw [if_pos (by omega)]
theorem one_of_eq {s : ByteArray} {i k : Nat} {x : Int} (hk : i + k ≤ s.size) (hx : isPoint x = true) (h : strOfNums (encodeRuneZ x) = s.extract i (i + k)) : At (byt s) s.size i x.toNat k := by
  have h1 := at_list [] [] x hx
  simp only [List.nil_append, List.append_nil, List.length_nil] at h1
  have hl : (encodeRuneZ x).length = k := by
    have := congrArg ByteArray.size h
    rw [strOfNums_size, size_cut s i k hk] at this
    exact this
  rw [h, hl] at h1
  refine h1.shift (fun t ht => ?_) hk
  rw [Nat.zero_add, byt_cut s i k t ht]
theorem eq_of_one {s : ByteArray} {i k p : Nat} (h : At (byt s) s.size i p k) : isPoint (p : Int) = true ∧ strOfNums (encodeRuneZ (p : Int)) = s.extract i (i + k) := by
  have hk := h.end_le.1
  have hp : isPoint (p : Int) = true := by
    simp only [isPoint, Bool.and_eq_true, Bool.or_eq_true, decide_eq_true_eq]
    rcases h with ⟨rfl, h⟩ | ⟨rfl, h⟩ | ⟨rfl, h⟩ | ⟨rfl, h⟩ <;> omega
  refine ⟨hp, ?_⟩
  have h1 := at_list [] [] (p : Int) hp
  simp only [List.nil_append, List.append_nil, List.length_nil, Int.toNat_natCast] at h1
  have hz : (strOfNums (encodeRuneZ (p : Int))).size = (encodeRuneZ (p : Int)).length := strOfNums_size _
  have key : ∀ m, At (byt (strOfNums (encodeRuneZ (p : Int)))) (strOfNums (encodeRuneZ (p : Int))).size 0 p m → k = m → (strOfNums (encodeRuneZ (p : Int))).size = m → strOfNums (encodeRuneZ (p : Int)) = s.extract i (i + k) := by
    intro m g e hm
    subst e
    refine ba_byt (by rw [hm, size_cut s i k hk]) fun j hj => ?_
    rw [hm] at hj
    rw [byt_cut s i k j hj]
    rcases h with ⟨rfl, h⟩ | ⟨rfl, h⟩ | ⟨rfl, h⟩ | ⟨rfl, h⟩ <;> rcases g with ⟨e, g⟩ | ⟨e, g⟩ | ⟨e, g⟩ | ⟨e, g⟩ <;> first | (cases e; done) | skip
    · obtain rfl : j = 0 := by omega
      rw [Nat.add_zero]; omega
    · rcases (by omega : j = 0 ∨ j = 1) with rfl | rfl
      · rw [Nat.add_zero]; omega
      · simp only [Nat.zero_add] at g; omega
    · rcases (by omega : j = 0 ∨ j = 1 ∨ j = 2) with rfl | rfl | rfl
      · rw [Nat.add_zero]; omega
      · simp only [Nat.zero_add] at g; omega
      · simp only [Nat.zero_add] at g; omega
    · rcases (by omega : j = 0 ∨ j = 1 ∨ j = 2 ∨ j = 3) with rfl | rfl | rfl | rfl
      · rw [Nat.add_zero]; omega
      · simp only [Nat.zero_add] at g; omega
      · simp only [Nat.zero_add] at g; omega
      · simp only [Nat.zero_add] at g; omega
  refine key _ h1 ?_ hz
  rcases h with ⟨rfl, h⟩ | ⟨rfl, h⟩ | ⟨rfl, h⟩ | ⟨rfl, h⟩
  · rw [encodeRuneZ_one (by omega) (by omega)]; rfl
  · rw [encodeRuneZ_two (by omega) (by omega)]; rfl
  · rw [encodeRuneZ_three (by omega)]; rfl
  · rw [encodeRuneZ_four (by omega) (by omega)]; rfl
def numZ (s : ByteArray) (i k : Nat) : Nat := numF (byt s) i k (k - 1)
def oneB (s : ByteArray) (i k : Nat) : Bool := isPoint (numZ s i k : Nat) && ((strOfNums (encodeRuneZ (numZ s i k : Nat))).toList == (s.extract i (i + k)).toList)
theorem oneB_iff {s : ByteArray} {i k : Nat} (hk : i + k ≤ s.size) : oneB s i k = true ↔ At (byt s) s.size i (numZ s i k) k := by
  unfold oneB
  rw [Bool.and_eq_true, ba_beq, decide_eq_true_eq]
  constructor
  · rintro ⟨h1, h2⟩
    have := one_of_eq hk h1 h2
    rwa [Int.toNat_natCast] at this
  · intro h
    exact eq_of_one h
theorem oneB_at {s : ByteArray} {i k p : Nat} (h : At (byt s) s.size i p k) : numZ s i k = p ∧ oneB s i k = true := by
  have h1 : numZ s i k = p := num_at h
  refine ⟨h1, (oneB_iff h.end_le.1).2 ?_⟩
  rw [h1]
  exact h
theorem one_out (s : ByteArray) (a : Int) (k : Nat) (w : World) (hs : s.size ≤ 2000000) (h : a < 0 ∨ (s.size : Int) < a + k) (hk : k ≤ 4) (ha : a ≤ s.size) :
    Calls Tryd.prog 86 #[.string s, .int .i64 a, .int .i64 k] w fun e w' => e = .returned (.tuple #[.int .i64 0, .bool false]) ∧ w = w' := by
  by_cases h0 : a < 0
  · have hd : decide (a < 0) = true := by simpa using h0
    go_enter Tryd.func86, Tryd.ntmps86
    go_wp2
    go_ret2
    exact ⟨rfl, rfl⟩
  · have h1 : (s.size : Int) < a + k := by omega
    go_enter Tryd.func86, Tryd.ntmps86
    go_wp2
    go_ret2
    exact ⟨rfl, rfl⟩
theorem conv_new (w : World) (arr : Array Value) (x : Int) (h : arr.toList = runeCells x) : (convert 119 9 (.slice (some ⟨w.heap.size, 0, none⟩) arr.size arr.size)).run Tryd.prog (w.alloc (.cells arr 5)).drew = .ok (.string (strOfNums (encodeRuneZ x))) (w.alloc (.cells arr 5)).drew := by
  have hs : arr.size = (encodeRuneZ x).length := by
    rw [← Array.length_toList, h]
    simp [runeCells]
  rw [hs]
  refine run_convert_bytes_arg (w.alloc (.cells arr 5)).drew _ _ Tryd.underlying119 Tryd.underlying5 w.heap.size 0 (encodeRuneZ x).length (encodeRuneZ x).length (encodeRuneZ x) rfl (fun j hj => ?_) _ Tryd.underlying9
  show (w.alloc (.cells arr 5)).cell? ⟨w.heap.size, 0 + j, none⟩ = _
  simp only [World.cell?, heap_alloc_new, Nat.zero_add]
  rw [← Array.getElem?_toList, h]
  simp [runeCells, List.getD_eq_getElem?_getD, hj]
set_option maxHeartbeats 2000000 in
theorem one_in (s : ByteArray) (i k : Nat) (w : World) (hs : s.size ≤ 2000000) (h1 : 1 ≤ k) (h4 : k ≤ 4) (hik : i + k ≤ s.size) :
    Calls Tryd.prog 86 #[.string s, .int .i64 i, .int .i64 k] w fun e w' => e = .returned (.tuple #[.int .i64 (numZ s i k : Nat), .bool (oneB s i k)]) ∧ Below w.heap.size w w' := by
  have hnum := number_any s i k w (by unfold maxLen; omega) h1 h4 hik
  obtain ⟨v, hv⟩ : ∃ v, numZ s i k = v := ⟨_, rfl⟩
  have hB : oneB s i k = (isPoint (v : Nat) && ((strOfNums (encodeRuneZ (v : Nat))).toList == (s.extract i (i + k)).toList)) := by unfold oneB; rw [hv]
  rw [show numF (byt s) i k (k - 1) = v from hv] at hnum
  rw [hv, hB]
  clear hv hB
  have hik' : (i : Int) + k ≤ s.size := by omega
  cases hp : isPoint (v : Nat) with
  | false =>
    have hq := fun W => is_any (v : Nat) W
    rw [hp] at hq
    clear hp
    go_enter Tryd.func86, Tryd.ntmps86
    go_wp2_with fail
    refine hnum.mono ?_
    rintro e w1 ⟨rfl, rfl⟩
    go_wp2
    refine wp_region_held_drew (S := fun _ => True) (by kernel_rfl) trivial (fun hHeld => ?_)
    refine wpAnyH_take (i := 0) (oi := _) (v := .int .i64 (v : Nat)) rfl (by kernel_rfl) (by kernel_rfl) (by kernel_rfl) (fun _ _ _ h => h) (Or.inl ⟨by rfl, fun W _ => rfl⟩) hHeld ?_
    try simp only [Act.put, List.getElem_toArray, List.getElem_cons_zero, List.setIfInBounds_toArray, List.set_cons_zero, List.set_cons_succ]
    refine wpAnyH_take (i := 1) (oi := _) (v := .int .i64 (v : Nat)) rfl (by kernel_rfl) (by kernel_rfl) (by kernel_rfl) (fun _ _ _ h => h) (Or.inl ⟨by rfl, fun W _ => rfl⟩) hHeld ?_
    try simp only [Act.put, List.getElem_toArray, List.getElem_cons_zero, List.getElem_cons_succ, List.setIfInBounds_toArray, List.set_cons_zero, List.set_cons_succ]
    refine wpAnyH_ready (rs := [2]) (by kernel_rfl) (by simp) ?_
    refine AllReadyH.cons (o := _) rfl (fun K hK => ?_) AllReadyH.nil
    go_simp
    refine (hq _).mono ?_
    rintro e w2 ⟨rfl, rfl⟩
    clear hHeld
    refine hK.out _ _ trivial (fun hHeld => ?_)
    clear hK K
    try simp only [Act.put, List.getElem_toArray, List.getElem_cons_zero, List.getElem_cons_succ, List.setIfInBounds_toArray, List.set_cons_zero, List.set_cons_succ]
    refine wpAnyH_take (i := 3) (oi := _) (v := .bool false) rfl (by kernel_rfl) (by kernel_rfl) (by kernel_rfl) (fun _ _ _ h => h) (Or.inl ⟨by rfl, fun W _ => rfl⟩) hHeld ?_
    try simp only [Act.put, List.getElem_toArray, List.getElem_cons_zero, List.getElem_cons_succ, List.setIfInBounds_toArray, List.set_cons_zero, List.set_cons_succ]
    refine wpAnyH_take (i := 4) (oi := _) (v := undef) rfl (by kernel_rfl) (by kernel_rfl) (by kernel_rfl) (fun _ _ _ h => h) (Or.inr ⟨by rfl, rfl⟩) hHeld ?_
    try simp only [Act.put, List.getElem_toArray, List.getElem_cons_zero, List.getElem_cons_succ, List.setIfInBounds_toArray, List.set_cons_zero, List.set_cons_succ]
    refine wpAnyH_take (i := 5) (oi := _) (v := undef) rfl (by kernel_rfl) (by kernel_rfl) (by kernel_rfl) (fun _ _ _ h => h) (Or.inr ⟨by rfl, rfl⟩) hHeld ?_
    try simp only [Act.put, List.getElem_toArray, List.getElem_cons_zero, List.getElem_cons_succ, List.setIfInBounds_toArray, List.set_cons_zero, List.set_cons_succ]
    refine wpAnyH_take (i := 6) (oi := _) (v := undef) rfl (by kernel_rfl) (by kernel_rfl) (by kernel_rfl) (fun _ _ _ h => h) (Or.inr ⟨by rfl, rfl⟩) hHeld ?_
    try simp only [Act.put, List.getElem_toArray, List.getElem_cons_zero, List.getElem_cons_succ, List.setIfInBounds_toArray, List.set_cons_zero, List.set_cons_succ]
    refine wpAnyH_take (i := 7) (oi := _) (v := undef) rfl (by kernel_rfl) (by kernel_rfl) (by kernel_rfl) (fun _ _ _ h => h) (Or.inr ⟨by rfl, rfl⟩) hHeld ?_
    try simp only [Act.put, List.getElem_toArray, List.getElem_cons_zero, List.getElem_cons_succ, List.setIfInBounds_toArray, List.set_cons_zero, List.set_cons_succ]
    refine wpAnyH_take (i := 8) (oi := _) (v := undef) rfl (by kernel_rfl) (by kernel_rfl) (by kernel_rfl) (fun _ _ _ h => h) (Or.inr ⟨by rfl, rfl⟩) hHeld ?_
    try simp only [Act.put, List.getElem_toArray, List.getElem_cons_zero, List.getElem_cons_succ, List.setIfInBounds_toArray, List.set_cons_zero, List.set_cons_succ]
    refine wpAnyH_take (i := 9) (oi := _) (v := undef) rfl (by kernel_rfl) (by kernel_rfl) (by kernel_rfl) (fun _ _ _ h => h) (Or.inr ⟨by rfl, rfl⟩) hHeld ?_
    try simp only [Act.put, List.getElem_toArray, List.getElem_cons_zero, List.getElem_cons_succ, List.setIfInBounds_toArray, List.set_cons_zero, List.set_cons_succ]
    refine wpAnyH_take (i := 10) (oi := _) (v := undef) rfl (by kernel_rfl) (by kernel_rfl) (by kernel_rfl) (fun _ _ _ h => h) (Or.inr ⟨by rfl, rfl⟩) hHeld ?_
    try simp only [Act.put, List.getElem_toArray, List.getElem_cons_zero, List.getElem_cons_succ, List.setIfInBounds_toArray, List.set_cons_zero, List.set_cons_succ]
    refine wpAnyH_take (i := 11) (oi := _) (v := undef) rfl (by kernel_rfl) (by kernel_rfl) (by kernel_rfl) (fun _ _ _ h => h) (Or.inr ⟨by rfl, rfl⟩) hHeld ?_
    try simp only [Act.put, List.getElem_toArray, List.getElem_cons_zero, List.getElem_cons_succ, List.setIfInBounds_toArray, List.set_cons_zero, List.set_cons_succ]
    refine wpAnyH_take (i := 12) (oi := _) (v := undef) rfl (by kernel_rfl) (by kernel_rfl) (by kernel_rfl) (fun _ _ _ h => h) (Or.inr ⟨by rfl, rfl⟩) hHeld ?_
    try simp only [Act.put, List.getElem_toArray, List.getElem_cons_zero, List.getElem_cons_succ, List.setIfInBounds_toArray, List.set_cons_zero, List.set_cons_succ]
    refine wpAnyH_take (i := 13) (oi := _) (v := undef) rfl (by kernel_rfl) (by kernel_rfl) (by kernel_rfl) (fun _ _ _ h => h) (Or.inr ⟨by rfl, rfl⟩) hHeld ?_
    try simp only [Act.put, List.getElem_toArray, List.getElem_cons_zero, List.getElem_cons_succ, List.setIfInBounds_toArray, List.set_cons_zero, List.set_cons_succ]
    refine wpAnyH_take (i := 14) (oi := _) (v := .bool false) rfl (by kernel_rfl) (by kernel_rfl) (by kernel_rfl) (fun _ _ _ h => h) (Or.inl ⟨by rfl, by intro W hW; clear hW; go_simp⟩) hHeld ?_
    try simp only [Act.put, List.getElem_toArray, List.getElem_cons_zero, List.getElem_cons_succ, List.setIfInBounds_toArray, List.set_cons_zero, List.set_cons_succ]
    refine wpAnyH_take (i := 15) (oi := _) (v := .int .i64 (v : Nat)) rfl (by kernel_rfl) (by kernel_rfl) (by kernel_rfl) (fun _ _ _ h => h) (Or.inl ⟨by rfl, fun W _ => rfl⟩) hHeld ?_
    try simp only [Act.put, List.getElem_toArray, List.getElem_cons_zero, List.getElem_cons_succ, List.setIfInBounds_toArray, List.set_cons_zero, List.set_cons_succ]
    refine wpAnyH_take (i := 16) (oi := _) (v := .bool false) rfl (by kernel_rfl) (by kernel_rfl) (by kernel_rfl) (fun _ _ _ h => h) (Or.inl ⟨by rfl, fun W _ => rfl⟩) hHeld ?_
    try simp only [Act.put, List.getElem_toArray, List.getElem_cons_zero, List.getElem_cons_succ, List.setIfInBounds_toArray, List.set_cons_zero, List.set_cons_succ]
    refine wpAnyH_done (by kernel_rfl) ?_ _
    go_wp2
    go_ret2
    exact ⟨by simp, (Below.refl _ _).drew⟩
  | true =>
    have hq := fun W => is_any (v : Nat) W
    rw [hp] at hq
    obtain ⟨p0, p1, p2⟩ := isPoint_iff hp
    have hby := fun W => bytes_any (v : Nat) p0 p1 p2 W
    clear hp p0 p1 p2
    go_enter Tryd.func86, Tryd.ntmps86
    go_wp2_with fail
    refine hnum.mono ?_
    rintro e w1 ⟨rfl, rfl⟩
    go_wp2
    refine wp_region_held_drew (S := fun _ => True) (by kernel_rfl) trivial (fun hHeld => ?_)
    refine wpAnyH_take (i := 0) (oi := _) (v := .int .i64 (v : Nat)) rfl (by kernel_rfl) (by kernel_rfl) (by kernel_rfl) (fun _ _ _ h => h) (Or.inl ⟨by rfl, fun W _ => rfl⟩) hHeld ?_
    try simp only [Act.put, List.getElem_toArray, List.getElem_cons_zero, List.setIfInBounds_toArray, List.set_cons_zero, List.set_cons_succ]
    refine wpAnyH_take (i := 1) (oi := _) (v := .int .i64 (v : Nat)) rfl (by kernel_rfl) (by kernel_rfl) (by kernel_rfl) (fun _ _ _ h => h) (Or.inl ⟨by rfl, fun W _ => rfl⟩) hHeld ?_
    try simp only [Act.put, List.getElem_toArray, List.getElem_cons_zero, List.getElem_cons_succ, List.setIfInBounds_toArray, List.set_cons_zero, List.set_cons_succ]
    refine wpAnyH_ready (rs := [2]) (by kernel_rfl) (by simp) ?_
    refine AllReadyH.cons (o := _) rfl (fun K hK => ?_) AllReadyH.nil
    go_simp
    refine (hq _).mono ?_
    rintro e w2 ⟨rfl, rfl⟩
    clear hHeld
    refine hK.out _ _ trivial (fun hHeld => ?_)
    clear hK K
    try simp only [Act.put, List.getElem_toArray, List.getElem_cons_zero, List.getElem_cons_succ, List.setIfInBounds_toArray, List.set_cons_zero, List.set_cons_succ]
    refine wpAnyH_take (i := 3) (oi := _) (v := .bool true) rfl (by kernel_rfl) (by kernel_rfl) (by kernel_rfl) (fun _ _ _ h => h) (Or.inl ⟨by rfl, fun W _ => rfl⟩) hHeld ?_
    try simp only [Act.put, List.getElem_toArray, List.getElem_cons_zero, List.getElem_cons_succ, List.setIfInBounds_toArray, List.set_cons_zero, List.set_cons_succ]
    refine wpAnyH_take (i := 4) (oi := _) (v := .int .i64 (v : Nat)) rfl (by kernel_rfl) (by kernel_rfl) (by kernel_rfl) (fun _ _ _ h => h) (Or.inl ⟨by rfl, fun W _ => rfl⟩) hHeld ?_
    try simp only [Act.put, List.getElem_toArray, List.getElem_cons_zero, List.getElem_cons_succ, List.setIfInBounds_toArray, List.set_cons_zero, List.set_cons_succ]
    refine wpAnyH_take (i := 7) (oi := _) (v := .string s) rfl (by kernel_rfl) (by kernel_rfl) (by kernel_rfl) (fun _ _ _ h => h) (Or.inl ⟨by rfl, fun W _ => rfl⟩) hHeld ?_
    try simp only [Act.put, List.getElem_toArray, List.getElem_cons_zero, List.getElem_cons_succ, List.setIfInBounds_toArray, List.set_cons_zero, List.set_cons_succ]
    refine wpAnyH_take (i := 8) (oi := _) (v := .int .i64 i) rfl (by kernel_rfl) (by kernel_rfl) (by kernel_rfl) (fun _ _ _ h => h) (Or.inl ⟨by rfl, fun W _ => rfl⟩) hHeld ?_
    try simp only [Act.put, List.getElem_toArray, List.getElem_cons_zero, List.getElem_cons_succ, List.setIfInBounds_toArray, List.set_cons_zero, List.set_cons_succ]
    refine wpAnyH_take (i := 9) (oi := _) (v := .int .i64 i) rfl (by kernel_rfl) (by kernel_rfl) (by kernel_rfl) (fun _ _ _ h => h) (Or.inl ⟨by rfl, fun W _ => rfl⟩) hHeld ?_
    try simp only [Act.put, List.getElem_toArray, List.getElem_cons_zero, List.getElem_cons_succ, List.setIfInBounds_toArray, List.set_cons_zero, List.set_cons_succ]
    refine wpAnyH_take (i := 10) (oi := _) (v := .int .i64 k) rfl (by kernel_rfl) (by kernel_rfl) (by kernel_rfl) (fun _ _ _ h => h) (Or.inl ⟨by rfl, fun W _ => rfl⟩) hHeld ?_
    try simp only [Act.put, List.getElem_toArray, List.getElem_cons_zero, List.getElem_cons_succ, List.setIfInBounds_toArray, List.set_cons_zero, List.set_cons_succ]
    refine wpAnyH_take (i := 11) (oi := _) (v := .int .i64 ((i : Int) + k)) rfl (by kernel_rfl) (by kernel_rfl) (by kernel_rfl) (fun _ _ _ h => h) (Or.inl ⟨by rfl, by intro W hW; clear hW; go_simp; exact IntWalk.i64_in _ (by omega)⟩) hHeld ?_
    try simp only [Act.put, List.getElem_toArray, List.getElem_cons_zero, List.getElem_cons_succ, List.setIfInBounds_toArray, List.set_cons_zero, List.set_cons_succ]
    refine wpAnyH_take (i := 12) (oi := _) (v := .string (s.extract i (i + k))) rfl (by kernel_rfl) (by kernel_rfl) (by kernel_rfl) (fun _ _ _ h => h) (Or.inl ⟨by rfl, by intro W hW; clear hW; go_simp; rw [if_pos (by omega), if_pos (by omega), show ((i : Int) + k).toNat = i + k by omega]⟩) hHeld ?_
    try simp only [Act.put, List.getElem_toArray, List.getElem_cons_zero, List.getElem_cons_succ, List.setIfInBounds_toArray, List.set_cons_zero, List.set_cons_succ]
    refine wpAnyH_ready (rs := [5]) (by kernel_rfl) (by simp) ?_
    refine AllReadyH.cons (o := _) rfl (fun K hK => ?_) AllReadyH.nil
    go_simp
    refine (hby _).mono ?_
    rintro e w3 ⟨arr, rfl, harr, rfl⟩
    clear hHeld
    refine hK.out _ _ trivial (fun hHeld => ?_)
    clear hK K
    try simp only [Act.put, List.getElem_toArray, List.getElem_cons_zero, List.getElem_cons_succ, List.setIfInBounds_toArray, List.set_cons_zero, List.set_cons_succ]
    have hcv := conv_new w arr (v : Nat) harr
    refine wpAnyH_take (i := 15) (oi := _) (v := .int .i64 (v : Nat)) rfl (by kernel_rfl) (by kernel_rfl) (by kernel_rfl) (fun _ _ _ h => h) (Or.inl ⟨by rfl, fun W _ => rfl⟩) hHeld ?_
    try simp only [Act.put, List.getElem_toArray, List.getElem_cons_zero, List.getElem_cons_succ, List.setIfInBounds_toArray, List.set_cons_zero, List.set_cons_succ]
    refine wpAnyH_ready (rs := [6]) (by kernel_rfl) (by simp) ?_
    refine AllReadyH.cons (o := _) rfl (fun K hK => ?_) AllReadyH.nil
    go_simp
    clear hcv
    clear harr
    clear hHeld
    refine hK.out _ _ trivial (fun hHeld => ?_)
    clear hK K
    try simp only [Act.put, List.getElem_toArray, List.getElem_cons_zero, List.getElem_cons_succ, List.setIfInBounds_toArray, List.set_cons_zero, List.set_cons_succ]
    refine wpAnyH_take (i := 13) (oi := _) (v := .bool ((strOfNums (encodeRuneZ (v : Nat))).toList == (s.extract i (i + k)).toList)) rfl (by kernel_rfl) (by kernel_rfl) (by kernel_rfl) (fun _ _ _ h => h) (Or.inl ⟨by rfl, by intro W hW; clear hW; go_simp⟩) hHeld ?_
    try simp only [Act.put, List.getElem_toArray, List.getElem_cons_zero, List.getElem_cons_succ, List.setIfInBounds_toArray, List.set_cons_zero, List.set_cons_succ]
    refine wpAnyH_take (i := 14) (oi := _) (v := .bool ((strOfNums (encodeRuneZ (v : Nat))).toList == (s.extract i (i + k)).toList)) rfl (by kernel_rfl) (by kernel_rfl) (by kernel_rfl) (fun _ _ _ h => h) (Or.inl ⟨by rfl, by intro W hW; clear hW; go_simp⟩) hHeld ?_
    try simp only [Act.put, List.getElem_toArray, List.getElem_cons_zero, List.getElem_cons_succ, List.setIfInBounds_toArray, List.set_cons_zero, List.set_cons_succ]
    refine wpAnyH_take (i := 16) (oi := _) (v := .bool ((strOfNums (encodeRuneZ (v : Nat))).toList == (s.extract i (i + k)).toList)) rfl (by kernel_rfl) (by kernel_rfl) (by kernel_rfl) (fun _ _ _ h => h) (Or.inl ⟨by rfl, fun W _ => rfl⟩) hHeld ?_
    try simp only [Act.put, List.getElem_toArray, List.getElem_cons_zero, List.getElem_cons_succ, List.setIfInBounds_toArray, List.set_cons_zero, List.set_cons_succ]
    refine wpAnyH_done (by kernel_rfl) ?_ _
    go_wp2
    go_ret2
    exact ⟨by simp, ((Below.refl _ _).drew).alloc (Nat.le_refl _) _⟩
end Go.Proofs.YtmaefhnlipcmoaaDoor
