/- The reference's number, One. Conditions: a place within the text. -/
import Derived.Test.YtmaefhnlipcmoaaDoorPts
import Derived.BigQuiet
import Derived.Deep.QuietTactic
import Derived.Deep.RegionHeld3
namespace Go.Proofs.YtmaefhnlipcmoaaDoor
open Go.RowKit Go.Lib
def num0 (B : Nat → Nat) (i k : Nat) : Nat := if k = 2 then B i % 32 else if k = 3 then B i % 16 else if k = 4 then B i % 8 else B i
def numF (B : Nat → Nat) (i k : Nat) : Nat → Nat
  | 0 => num0 B i k
  | t + 1 => 64 * numF B i k t + B (i + (t + 1)) % 64
theorem num0_lt {B : Nat → Nat} (hb : ∀ j, B j < 256) (i k : Nat) : num0 B i k ≤ 255 := by
  have := hb i
  unfold num0
  repeat' split
  all_goals omega
theorem numF_lt {B : Nat → Nat} (hb : ∀ j, B j < 256) (i k : Nat) : ∀ t, t ≤ 3 → numF B i k t ≤ 67108863
  | 0, _ => by have := num0_lt hb i k; unfold numF; omega
  | 1, _ => by have := num0_lt hb i k; unfold numF numF; omega
  | 2, _ => by have := num0_lt hb i k; unfold numF numF numF; omega
  | 3, _ => by have := num0_lt hb i k; unfold numF numF numF numF; omega
  | t + 4, h => by omega
theorem num_rem {B : Nat → Nat} (hb : ∀ j, B j < 256) (i k : Nat) : ∀ t, t ≤ 2 → numF B i k t ≤ 1048575
  | 0, _ => by have := num0_lt hb i k; unfold numF; omega
  | 1, _ => by have := num0_lt hb i k; unfold numF numF; omega
  | 2, _ => by have := num0_lt hb i k; unfold numF numF numF; omega
  | t + 3, h => by omega
theorem num_at {B : Nat → Nat} {n i p k : Nat} (h : At B n i p k) : numF B i k (k - 1) = p := by
  rcases h with ⟨rfl, h⟩ | ⟨rfl, h⟩ | ⟨rfl, h⟩ | ⟨rfl, h⟩
  · show num0 B i 1 = p
    unfold num0
    simp
    omega
  · show 64 * num0 B i 2 + B (i + 1) % 64 = p
    unfold num0
    simp
    omega
  · show 64 * (64 * num0 B i 3 + B (i + 1) % 64) + B (i + 2) % 64 = p
    unfold num0
    simp
    omega
  · show 64 * (64 * (64 * num0 B i 4 + B (i + 1) % 64) + B (i + 2) % 64) + B (i + 3) % 64 = p
    unfold num0
    simp
    omega
theorem lit_1 {a b : Nat} (h : a = b) : Value.int .i64 (a : Int) = .int .i64 (b : Int) := by rw [h]
set_option maxHeartbeats 4000000 in
theorem number_1 (s : ByteArray) (i : Nat) (w : World) (hik : i + 1 ≤ s.size) :
    Calls Tryd.prog 96 #[.string s, .int .i64 i, .int .i64 1] w fun e w' => e = .returned (.int .i64 (numF (byt s) i 1 0 : Nat)) ∧ w = w' := by
  have hi' : i < s.size := by omega
  have hi : (i : Int) < s.size := by omega
  have hb0 := byt_get s i hi'
  have hlt0 := UInt8.toNat_lt s[i]
  have hbl := byt_lt s
  have h0 : numF (byt s) i 1 0 = s[i].toNat := by show num0 _ _ _ = _; unfold num0; simp [hb0]
  have HZ := Lib.hid h0
  clear h0 hb0
  go_enter Tryd.func96, Tryd.ntmps96
  go_wp2
  go_loop [7, 8] (fun n j => ∃ t : Nat, t + 1 ≤ 1 ∧ j = .int .i64 ((t : Int) + 1) ∧ n = .int .i64 (numF (byt s) i 1 t : Nat)) (fun _ j => 1 - (RowKit.intOf j).toNat)
  case atStart => exact ⟨0, by omega, rfl, by first | (rw [HZ.out]; done) | (rw [HZ.out]; go_num)⟩
  case round =>
      obtain ⟨t, ht, rfl, rfl⟩ := hrel
      obtain rfl : t = 0 := by omega
      go_wp2
      go_ret
      exact ⟨rfl, rfl⟩
set_option maxHeartbeats 4000000 in
theorem number_2 (s : ByteArray) (i : Nat) (w : World) (hs : s.size ≤ maxLen) (hik : i + 2 ≤ s.size) :
    Calls Tryd.prog 96 #[.string s, .int .i64 i, .int .i64 2] w fun e w' => e = .returned (.int .i64 (numF (byt s) i 2 1 : Nat)) ∧ w = w' := by
  unfold maxLen at hs
  have hi' : i < s.size := by omega
  have hi : (i : Int) < s.size := by omega
  have hb0 := byt_get s i hi'
  have hlt0 := UInt8.toNat_lt s[i]
  have hbl := byt_lt s
  have h0 : numF (byt s) i 2 0 = s[i].toNat % 32 := by show num0 _ _ _ = _; unfold num0; simp [hb0]
  have HZ := Lib.hid h0
  clear h0 hb0
  go_enter Tryd.func96, Tryd.ntmps96
  go_wp2
  go_loop [7, 8] (fun n j => ∃ t : Nat, t + 1 ≤ 2 ∧ j = .int .i64 ((t : Int) + 1) ∧ n = .int .i64 (numF (byt s) i 2 t : Nat)) (fun _ j => 2 - (RowKit.intOf j).toNat)
  case atStart => exact ⟨0, by omega, rfl, by first | (rw [HZ.out]; done) | (rw [HZ.out]; go_num)⟩
  case round =>
      obtain ⟨t, ht, rfl, rfl⟩ := hrel
      by_cases hlt : t + 1 < 2
      · have ht2 : t + 1 ≤ 1 := by omega
        have hix : i + (t + 1) < s.size := by omega
        have hb1 := byt_get s _ hix
        have hr := num_rem hbl i 2 t (by omega)
        have hlt3 := UInt8.toNat_lt s[i + (t + 1)]
        have hnx : numF (byt s) i 2 (t + 1) = 64 * numF (byt s) i 2 t + s[i + (t + 1)].toNat % 64 := by rw [numF, hb1]
        obtain ⟨x, hx⟩ : ∃ x, numF (byt s) i 2 t = x := ⟨_, rfl⟩
        rw [hx] at hnx hr
        rw [hx]
        have HN := Lib.hid hnx
        have hg : ((t : Int) + 1) < 2 := by omega
        have hg2 : (i : Int) + (t + 1) < s.size := by omega
        clear hnx hx hb1 hbl
        go_wp2
        go_round
        case rel => exact ⟨t + 1, by omega, by go_num, by rw [HN.out]; go_num⟩
        case measure => simp [RowKit.intOf]; omega
      · obtain rfl : t = 1 := by omega
        go_wp2
        go_ret
        exact ⟨rfl, rfl⟩
set_option maxHeartbeats 4000000 in
theorem number_3 (s : ByteArray) (i : Nat) (w : World) (hs : s.size ≤ maxLen) (hik : i + 3 ≤ s.size) :
    Calls Tryd.prog 96 #[.string s, .int .i64 i, .int .i64 3] w fun e w' => e = .returned (.int .i64 (numF (byt s) i 3 2 : Nat)) ∧ w = w' := by
  unfold maxLen at hs
  have hi' : i < s.size := by omega
  have hi : (i : Int) < s.size := by omega
  have hb0 := byt_get s i hi'
  have hlt0 := UInt8.toNat_lt s[i]
  have hbl := byt_lt s
  have h0 : numF (byt s) i 3 0 = s[i].toNat % 16 := by show num0 _ _ _ = _; unfold num0; simp [hb0]
  have HZ := Lib.hid h0
  clear h0 hb0
  go_enter Tryd.func96, Tryd.ntmps96
  go_wp2
  go_loop [7, 8] (fun n j => ∃ t : Nat, t + 1 ≤ 3 ∧ j = .int .i64 ((t : Int) + 1) ∧ n = .int .i64 (numF (byt s) i 3 t : Nat)) (fun _ j => 3 - (RowKit.intOf j).toNat)
  case atStart => exact ⟨0, by omega, rfl, by first | (rw [HZ.out]; done) | (rw [HZ.out]; go_num)⟩
  case round =>
      obtain ⟨t, ht, rfl, rfl⟩ := hrel
      by_cases hlt : t + 1 < 3
      · have ht2 : t + 1 ≤ 2 := by omega
        have hix : i + (t + 1) < s.size := by omega
        have hb1 := byt_get s _ hix
        have hr := num_rem hbl i 3 t (by omega)
        have hlt3 := UInt8.toNat_lt s[i + (t + 1)]
        have hnx : numF (byt s) i 3 (t + 1) = 64 * numF (byt s) i 3 t + s[i + (t + 1)].toNat % 64 := by rw [numF, hb1]
        obtain ⟨x, hx⟩ : ∃ x, numF (byt s) i 3 t = x := ⟨_, rfl⟩
        rw [hx] at hnx hr
        rw [hx]
        have HN := Lib.hid hnx
        have hg : ((t : Int) + 1) < 3 := by omega
        have hg2 : (i : Int) + (t + 1) < s.size := by omega
        clear hnx hx hb1 hbl
        go_wp2
        go_round
        case rel => exact ⟨t + 1, by omega, by go_num, by rw [HN.out]; go_num⟩
        case measure => simp [RowKit.intOf]; omega
      · obtain rfl : t = 2 := by omega
        go_wp2
        go_ret
        exact ⟨rfl, rfl⟩
set_option maxHeartbeats 4000000 in
theorem number_4 (s : ByteArray) (i : Nat) (w : World) (hs : s.size ≤ maxLen) (hik : i + 4 ≤ s.size) :
    Calls Tryd.prog 96 #[.string s, .int .i64 i, .int .i64 4] w fun e w' => e = .returned (.int .i64 (numF (byt s) i 4 3 : Nat)) ∧ w = w' := by
  unfold maxLen at hs
  have hi' : i < s.size := by omega
  have hi : (i : Int) < s.size := by omega
  have hb0 := byt_get s i hi'
  have hlt0 := UInt8.toNat_lt s[i]
  have hbl := byt_lt s
  have h0 : numF (byt s) i 4 0 = s[i].toNat % 8 := by show num0 _ _ _ = _; unfold num0; simp [hb0]
  have HZ := Lib.hid h0
  clear h0 hb0
  go_enter Tryd.func96, Tryd.ntmps96
  go_wp2
  go_loop [7, 8] (fun n j => ∃ t : Nat, t + 1 ≤ 4 ∧ j = .int .i64 ((t : Int) + 1) ∧ n = .int .i64 (numF (byt s) i 4 t : Nat)) (fun _ j => 4 - (RowKit.intOf j).toNat)
  case atStart => exact ⟨0, by omega, rfl, by first | (rw [HZ.out]; done) | (rw [HZ.out]; go_num)⟩
  case round =>
      obtain ⟨t, ht, rfl, rfl⟩ := hrel
      by_cases hlt : t + 1 < 4
      · have ht2 : t + 1 ≤ 3 := by omega
        have hix : i + (t + 1) < s.size := by omega
        have hb1 := byt_get s _ hix
        have hr := num_rem hbl i 4 t (by omega)
        have hlt3 := UInt8.toNat_lt s[i + (t + 1)]
        have hnx : numF (byt s) i 4 (t + 1) = 64 * numF (byt s) i 4 t + s[i + (t + 1)].toNat % 64 := by rw [numF, hb1]
        obtain ⟨x, hx⟩ : ∃ x, numF (byt s) i 4 t = x := ⟨_, rfl⟩
        rw [hx] at hnx hr
        rw [hx]
        have HN := Lib.hid hnx
        have hg : ((t : Int) + 1) < 4 := by omega
        have hg2 : (i : Int) + (t + 1) < s.size := by omega
        clear hnx hx hb1 hbl
        go_wp2
        go_round
        case rel => exact ⟨t + 1, by omega, by go_num, by rw [HN.out]; go_num⟩
        case measure => simp [RowKit.intOf]; omega
      · obtain rfl : t = 3 := by omega
        go_wp2
        go_ret
        exact ⟨rfl, rfl⟩
theorem number_any (s : ByteArray) (i k : Nat) (w : World) (hs : s.size ≤ maxLen) (h1 : 1 ≤ k) (h4 : k ≤ 4) (hik : i + k ≤ s.size) :
    Calls Tryd.prog 96 #[.string s, .int .i64 i, .int .i64 k] w fun e w' => e = .returned (.int .i64 (numF (byt s) i k (k - 1) : Nat)) ∧ w = w' := by
  rcases (by omega : k = 1 ∨ k = 2 ∨ k = 3 ∨ k = 4) with rfl | rfl | rfl | rfl
  · exact number_1 s i w hik
  · exact number_2 s i w hs hik
  · exact number_3 s i w hs hik
  · exact number_4 s i w hs hik
end Go.Proofs.YtmaefhnlipcmoaaDoor
