/- cell.name: what it answers. Conditions: lengths within the model's. -/
import Derived.Test.YtmaefhnlipcmoaaDoorRefName
import Derived.Test.YtmaefhnlipcmoaaDoorShelf
import Derived.Lib.OthersKept
namespace Go.Proofs.YtmaefhnlipcmoaaDoor
open Go.RowKit
def inSet (b : UInt8) : Bool := isLetter b || isDigit b
theorem cut_set (b : UInt8) : ((⟨#[95, 97, 98, 99, 100, 101, 102, 103, 104, 105, 106, 107, 108, 109, 110, 111, 112, 113, 114, 115, 116, 117, 118, 119, 120, 121, 122, 65, 66, 67, 68, 69, 70, 71, 72, 73, 74, 75, 76, 77, 78, 79, 80, 81, 82, 83, 84, 85, 86, 87, 88, 89, 90, 48, 49, 50, 51, 52, 53, 54, 55, 56, 57]⟩ : ByteArray).data.toList).contains b = inSet b := by
  have q : ∀ i : Fin 256, ((⟨#[95, 97, 98, 99, 100, 101, 102, 103, 104, 105, 106, 107, 108, 109, 110, 111, 112, 113, 114, 115, 116, 117, 118, 119, 120, 121, 122, 65, 66, 67, 68, 69, 70, 71, 72, 73, 74, 75, 76, 77, 78, 79, 80, 81, 82, 83, 84, 85, 86, 87, 88, 89, 90, 48, 49, 50, 51, 52, 53, 54, 55, 56, 57]⟩ : ByteArray).data.toList).contains (UInt8.ofNat i.1) = inSet (UInt8.ofNat i.1) := by decide +kernel
  have := q ⟨b.toNat, b.toNat_lt⟩
  simpa only [UInt8.ofNat_toNat] using this
theorem dig_set (b : UInt8) : decide (0 ≤ Lib.indexByte ((⟨#[48, 49, 50, 51, 52, 53, 54, 55, 56, 57]⟩ : ByteArray).data.toList) b) = isDigit b := by
  have q : ∀ i : Fin 256, decide (0 ≤ Lib.indexByte ((⟨#[48, 49, 50, 51, 52, 53, 54, 55, 56, 57]⟩ : ByteArray).data.toList) (UInt8.ofNat i.1)) = isDigit (UInt8.ofNat i.1) := by decide +kernel
  have := q ⟨b.toNat, b.toNat_lt⟩
  simpa only [UInt8.ofNat_toNat] using this
theorem let_set (b : UInt8) (h : inSet b = true) : b.toNat < 128 ∧ 0 ≤ Lib.indexByte ((⟨#[95, 97, 98, 99, 100, 101, 102, 103, 104, 105, 106, 107, 108, 109, 110, 111, 112, 113, 114, 115, 116, 117, 118, 119, 120, 121, 122, 65, 66, 67, 68, 69, 70, 71, 72, 73, 74, 75, 76, 77, 78, 79, 80, 81, 82, 83, 84, 85, 86, 87, 88, 89, 90, 48, 49, 50, 51, 52, 53, 54, 55, 56, 57]⟩ : ByteArray).data.toList) b ∧ isLetter b = !isDigit b := by
  have q : ∀ i : Fin 256, inSet (UInt8.ofNat i.1) = true → (UInt8.ofNat i.1).toNat < 128 ∧ 0 ≤ Lib.indexByte ((⟨#[95, 97, 98, 99, 100, 101, 102, 103, 104, 105, 106, 107, 108, 109, 110, 111, 112, 113, 114, 115, 116, 117, 118, 119, 120, 121, 122, 65, 66, 67, 68, 69, 70, 71, 72, 73, 74, 75, 76, 77, 78, 79, 80, 81, 82, 83, 84, 85, 86, 87, 88, 89, 90, 48, 49, 50, 51, 52, 53, 54, 55, 56, 57]⟩ : ByteArray).data.toList) (UInt8.ofNat i.1) ∧ isLetter (UInt8.ofNat i.1) = !isDigit (UInt8.ofNat i.1) := by decide +kernel
  have := q ⟨b.toNat, b.toNat_lt⟩
  simp only [UInt8.ofNat_toNat] at this
  exact this h
theorem dropWhile_nil (p : UInt8 → Bool) : ∀ l : List UInt8, l.dropWhile p = [] ↔ l.all p = true
  | [] => by simp
  | b :: r => by
    cases h : p b with
    | true => rw [List.dropWhile_cons_of_pos h, dropWhile_nil p r]; simp [h]
    | false => rw [List.dropWhile_cons_of_neg (by simp [h])]; simp [h]
theorem trim_nil (p : UInt8 → Bool) (l : List UInt8) : ((l.reverse.dropWhile p).reverse.dropWhile p = []) ↔ l.all p = true := by
  rw [dropWhile_nil]
  constructor
  · intro h
    rw [List.all_reverse] at h
    have e : l.reverse = l.reverse.takeWhile p ++ l.reverse.dropWhile p := (List.takeWhile_append_dropWhile).symm
    rw [← List.all_reverse, e, List.all_append, h, Bool.and_true]
    exact List.all_takeWhile
  · intro h
    rw [(dropWhile_nil p l.reverse).2 (by rw [List.all_reverse]; exact h)]
    rfl
theorem nameFrom_all : ∀ (l : List UInt8) (j : Nat), 0 < j → nameFrom l j = l.all inSet
  | [], j, _ => rfl
  | b :: r, j, h => by
    rw [nameFrom, nameFrom_all r (j + 1) (by omega)]
    simp [inSet, h]
theorem nameOk_cons {s : ByteArray} {b : UInt8} {r : List UInt8} (h : s.data.toList = b :: r) : nameOk s = (isLetter b && r.all inSet) := by
  have hz : 0 < s.size := by rw [← size_data, h]; simp
  rw [nameOk, h, nameFrom, nameFrom_all r 1 (by omega)]
  simp [hz]
theorem nameOk_not {s : ByteArray} (h : s.data.toList.all inSet = false) : nameOk s = false := by
  cases hl : s.data.toList with
  | nil => rw [hl] at h; cases h
  | cons b r =>
    rw [nameOk_cons hl]
    rw [hl, List.all_cons] at h
    cases h1 : r.all inSet with
    | false => simp
    | true =>
      rw [h1, Bool.and_true] at h
      have : isLetter b = false := by
        unfold inSet at h
        simp at h
        exact h.1
      simp [this]
theorem name1_any (b : UInt8) (w : World) (h : inSet b = true) : Calls Tryd.prog 72 #[.int .i32 b.toNat] w fun e w' => e = .returned (.bool false) ∧ w' = w := by
  obtain ⟨h1, h2, _⟩ := let_set b h
  have hc := Tryd.strings_ContainsRune_ascii ⟨#[95, 97, 98, 99, 100, 101, 102, 103, 104, 105, 106, 107, 108, 109, 110, 111, 112, 113, 114, 115, 116, 117, 118, 119, 120, 121, 122, 65, 66, 67, 68, 69, 70, 71, 72, 73, 74, 75, 76, 77, 78, 79, 80, 81, 82, 83, 84, 85, 86, 87, 88, 89, 90, 48, 49, 50, 51, 52, 53, 54, 55, 56, 57]⟩ b.toNat w (by omega) (by omega)
  rw [show ((b.toNat : Int)).toNat.toUInt8 = b by simp, decide_eq_true h2] at hc
  go_enter Tryd.func72, Tryd.ntmps72
  go_wp2_with fail
  refine hc.mono ?_
  rintro e w1 ⟨rfl, rfl⟩
  go_wp2
  go_ret
  exact ⟨rfl, rfl⟩
theorem get_all {s : ByteArray} (h : s.data.toList.all inSet = true) (k : Nat) (hk : k < s.size) : inSet s[k] = true := by
  rw [List.all_eq_true] at h
  refine h _ ?_
  simp [ByteArray.getElem_eq_getElem_data]
set_option maxHeartbeats 1000000 in
theorem indexFunc_none (s : ByteArray) (w : World) (hs : s.size ≤ maxLen) (h : s.data.toList.all inSet = true) :
    Calls Tryd.prog 91 #[.string s, .func (.func 72) #[] #[], .bool true] w fun e w' => e = .returned (.int .i64 (-1)) ∧ Below w.heap.size w w' := by
  unfold maxLen at hs
  have HA := Lib.hid h
  clear h
  go_enter Tryd.func91, Tryd.ntmps91
  go_wp2
  go_loopw [7] (fun _ wr => ∃ k : Nat, k ≤ s.size ∧ wr.heap[w.heap.size]? = some (.stringIter s k) ∧ Below w.heap.size w wr) (fun _ wr => s.size - wr.iterPos w.heap.size)
  case atStart => exact ⟨0, by omega, heap_alloc_new _ _, (Below.refl _ _).alloc (Nat.le_refl _) _⟩
  case round =>
    obtain ⟨k, hk, hit, hb⟩ := hrel
    by_cases hlt : k < s.size
    · have hset := get_all HA.out k hlt
      have hlow := (let_set _ hset).1
      have hnx := fun ty => Lib.run_next_ascii_at (P := Tryd.prog) wr w.heap.size s k ty hit hlt hlow
      have hit2 := Lib.iterAt_heap wr w.heap.size s k (k + 1) hit
      have hb2 := Lib.below_iterAt hb (Nat.le_refl w.heap.size) s (k + 1)
      have hcall := fun W => name1_any s[k] W hset
      obtain ⟨x, hx⟩ : ∃ x, s[k].toNat = x := ⟨_, rfl⟩
      rw [hx] at hnx hcall
      have HK := Lib.hid hlt
      have HIT := Lib.hid hit
      clear hx hset hlow hlt
      go_wp2_with (go_at_call 72; refine (hcall _).mono ?_; rintro e w4 ⟨rfl, rfl⟩)
      refine ⟨⟨k + 1, HK.out, hit2, hb2⟩, ?_⟩
      simp only [World.iterPos, HIT.out, hit2]
      have := HK.out
      omega
    · obtain rfl : k = s.size := by omega
      have hnx := fun ty => Lib.run_next_end_at (P := Tryd.prog) wr w.heap.size s s.size ty hit (by omega)
      go_wp2
      go_ret
      exact ⟨rfl, hb⟩
theorem containsFunc_none (s : ByteArray) (w : World) (hs : s.size ≤ maxLen) (h : s.data.toList.all inSet = true) :
    Calls Tryd.prog 71 #[.string s, .func (.func 72) #[] #[]] w fun e w' => e = .returned (.bool false) ∧ Below w.heap.size w w' := by
  have hc := indexFunc_none s w hs h
  go_enter Tryd.func71, Tryd.ntmps71
  go_wp2_with (first | (go_at_call 91; refine hc.mono ?_; rintro e w1 ⟨rfl, hb1⟩) | go_in)
  go_ret
  exact ⟨rfl, hb1⟩
theorem extract_one {s : ByteArray} {b : UInt8} {r : List UInt8} (h : s.data.toList = b :: r) : s.extract 0 1 = ⟨#[b]⟩ := by
  apply ba_ext
  rw [Lib.toList_data, Lib.toList_data, Lib.extract_data, h]
  simp
set_option maxHeartbeats 2000000 in
theorem name_any (s : ByteArray) (w : World) (hs : s.size ≤ maxLen) : Calls Tryd.prog 65 #[.string s] w fun e w' => e = .returned (.bool (nameOk s)) ∧ Below w.heap.size w w' := by
  have htrim := Tryd.strings_Trim_laid s ⟨#[95, 97, 98, 99, 100, 101, 102, 103, 104, 105, 106, 107, 108, 109, 110, 111, 112, 113, 114, 115, 116, 117, 118, 119, 120, 121, 122, 65, 66, 67, 68, 69, 70, 71, 72, 73, 74, 75, 76, 77, 78, 79, 80, 81, 82, 83, 84, 85, 86, 87, 88, 89, 90, 48, 49, 50, 51, 52, 53, 54, 55, 56, 57]⟩ w (by unfold maxLen at hs; omega) (by decide +kernel) (ascii_of_all (by decide +kernel))
  obtain ⟨T, hT⟩ : ∃ T, Lib.trimS s.data.toList ((⟨#[95, 97, 98, 99, 100, 101, 102, 103, 104, 105, 106, 107, 108, 109, 110, 111, 112, 113, 114, 115, 116, 117, 118, 119, 120, 121, 122, 65, 66, 67, 68, 69, 70, 71, 72, 73, 74, 75, 76, 77, 78, 79, 80, 81, 82, 83, 84, 85, 86, 87, 88, 89, 90, 48, 49, 50, 51, 52, 53, 54, 55, 56, 57]⟩ : ByteArray).data.toList) = T := ⟨_, rfl⟩
  have hTn : T = [] ↔ s.data.toList.all inSet = true := by
    rw [← hT]
    unfold Lib.trimS Lib.trimLeftS Lib.trimRightS
    have e : (fun b => ((⟨#[95, 97, 98, 99, 100, 101, 102, 103, 104, 105, 106, 107, 108, 109, 110, 111, 112, 113, 114, 115, 116, 117, 118, 119, 120, 121, 122, 65, 66, 67, 68, 69, 70, 71, 72, 73, 74, 75, 76, 77, 78, 79, 80, 81, 82, 83, 84, 85, 86, 87, 88, 89, 90, 48, 49, 50, 51, 52, 53, 54, 55, 56, 57]⟩ : ByteArray).data.toList).contains b) = inSet := funext cut_set
    rw [e]
    exact trim_nil inSet s.data.toList
  rw [hT] at htrim
  clear hT
  cases hl : s.data.toList with
  | nil =>
    have hz : s.size = 0 := by rw [← size_data, hl]; rfl
    have hV : nameOk s = false := by simp [nameOk, hz]
    obtain rfl : s = e0 := ba_ext (by rw [Lib.toList_data, hl, Lib.toList_data]; rfl)
    rw [hV]
    clear htrim hTn hV hl hz hs
    unfold e0
    go_enter Tryd.func65, Tryd.ntmps65
    go_wp2
    go_ret
    exact ⟨rfl, Below.refl _ _⟩
  | cons b r =>
    have hz : 0 < s.size := by rw [← size_data, hl]; simp
    have hne : (s.toList == ([] : List UInt8)) = false := by rw [Lib.toList_data, hl]; rfl
    have hne2 : ¬ s.toList = [] := by rw [Lib.toList_data, hl]; simp
    have hne3 : s.toList.isEmpty = false := by rw [Lib.toList_data, hl]; rfl
    cases ha : s.data.toList.all inSet with
    | false =>
      have hV := nameOk_not ha
      have hTe : ¬ T = [] := fun h => by rw [hTn.1 h] at ha; cases ha
      have hTl : ¬ (ByteArray.mk T.toArray).toList = [] := by rw [Lib.toList_data]; simpa using hTe
      have hTm : (ByteArray.mk T.toArray).toList.isEmpty = false := by rw [Lib.toList_data]; simpa using hTe
      rw [hV]
      obtain ⟨X, hX⟩ : ∃ X, ByteArray.mk T.toArray = X := ⟨_, rfl⟩
      rw [hX] at htrim hTl hTm
      clear hTn hV hl hTe ha hX
      go_enter Tryd.func65, Tryd.ntmps65
      go_wp2_with (first | (go_at_call 69; refine htrim.mono ?_; rintro e w1 ⟨rfl, hb1⟩) | fail)
      go_ret
      exact ⟨rfl, hb1⟩
    | true =>
      obtain rfl := hTn.2 ha
      have hV : nameOk s = isLetter b := by
        rw [nameOk_cons hl]
        rw [hl, List.all_cons] at ha
        simp only [Bool.and_eq_true] at ha
        rw [ha.2, Bool.and_true]
      have hb : inSet b = true := by
        rw [hl, List.all_cons] at ha
        simp only [Bool.and_eq_true] at ha
        exact ha.1
      rw [hV, (let_set b hb).2.2]
      have hx := extract_one hl
      have hcon := fun W => Tryd.strings_Contains_one ⟨#[48, 49, 50, 51, 52, 53, 54, 55, 56, 57]⟩ b W
      rw [dig_set b] at hcon
      have hcf := fun W => containsFunc_none s W hs ha
      clear hV hTn hl ha hb
      cases hd : isDigit b <;> rw [hd] at hcon
      · go_enter Tryd.func65, Tryd.ntmps65
        go_wp2_with (first | (go_at_call 69; refine htrim.mono ?_; rintro e w1 ⟨rfl, hb1⟩) | (go_at_call 70; refine (hcon _).mono ?_; rintro e w2 ⟨rfl, rfl⟩) | (go_at_call 71; refine (hcf _).mono ?_; rintro e w3 ⟨rfl, hb3⟩))
        go_ret
        exact ⟨rfl, hb1.trans (hb3.mono hb1.size)⟩
      · go_enter Tryd.func65, Tryd.ntmps65
        go_wp2_with (first | (go_at_call 69; refine htrim.mono ?_; rintro e w1 ⟨rfl, hb1⟩) | (go_at_call 70; refine (hcon _).mono ?_; rintro e w2 ⟨rfl, rfl⟩))
        go_ret
        exact ⟨rfl, hb1⟩
end Go.Proofs.YtmaefhnlipcmoaaDoor
