/- strings.IndexRune at the sixteen digits, and uuid.small: what a code point is worth as a digit. Conditions: the code point is one that a string's range hands out. -/
import Derived.Test.YtbigpcpifbjkfaaUuidParsed
import Derived.Test.YtbigpcpifbjkfaaShelf
import Derived.Lib.OthersKept
namespace Go.Proofs.Ytbigpcpifbjkfaa
open Go.RowKit Go.ChangeShapes Go.WideShapes Go.ChangeAt
theorem hi_byte (c : Nat) : 128 ≤ (UInt8.ofNat (128 + c % 64)).toNat := by rw [UInt8.toNat_ofNat']; omega
theorem enc_high (r : Int) (h : 128 ≤ r) : (∃ a b, Utf8.encode r = ⟨#[a, b]⟩ ∧ 128 ≤ b.toNat) ∨ (∃ a c b, Utf8.encode r = ⟨#[a, c, b]⟩ ∧ 128 ≤ b.toNat) ∨ (∃ a c d b, Utf8.encode r = ⟨#[a, c, d, b]⟩ ∧ 128 ≤ b.toNat) := by
  obtain ⟨c, hc, hc2⟩ : ∃ c : Nat, (if Utf8.valid r then r.toNat else Utf8.runeError) = c ∧ 128 ≤ c := by
    refine ⟨_, rfl, ?_⟩
    split
    · omega
    · decide
  have e : Utf8.encode r = if c < 0x80 then ⟨#[UInt8.ofNat c]⟩ else if c < 0x800 then ⟨#[UInt8.ofNat (0xC0 + c / 64), UInt8.ofNat (0x80 + c % 64)]⟩ else if c < 0x10000 then ⟨#[UInt8.ofNat (0xE0 + c / 4096), UInt8.ofNat (0x80 + c / 64 % 64), UInt8.ofNat (0x80 + c % 64)]⟩ else ⟨#[UInt8.ofNat (0xF0 + c / 262144), UInt8.ofNat (0x80 + c / 4096 % 64), UInt8.ofNat (0x80 + c / 64 % 64), UInt8.ofNat (0x80 + c % 64)]⟩ := by
    rw [← hc]; rfl
  rw [if_neg (by omega)] at e
  by_cases h1 : c < 0x800
  · rw [if_pos h1] at e
    exact .inl ⟨_, _, e, hi_byte c⟩
  · rw [if_neg h1] at e
    by_cases h2 : c < 0x10000
    · rw [if_pos h2] at e
      exact .inr (.inl ⟨_, _, _, e, hi_byte c⟩)
    · rw [if_neg h2] at e
      exact .inr (.inr ⟨_, _, _, _, e, hi_byte c⟩)
theorem small_any (r : Int) (w : World) (h : 0 ≤ r ∧ r ≤ 2147483647) :
    Calls Try.prog 19 #[.int .i32 r] w fun e w' => e = .returned (.int .i32 (if 65 ≤ r ∧ r ≤ 70 then r + 32 else r)) ∧ w' = w := by
  go_enter Try.func19, Try.ntmps19
  by_cases h1 : 65 ≤ r
  · by_cases h2 : r ≤ 70
    · rw [if_pos ⟨h1, h2⟩]
      go_wp2
      go_ret
      exact ⟨ret_int (by omega), rfl⟩
    · rw [if_neg (by omega)]
      go_wp2
      go_ret
      exact ⟨rfl, rfl⟩
  · rw [if_neg (by omega)]
    go_wp2
    go_ret
    exact ⟨rfl, rfl⟩
theorem idx_dig (r : Int) (h : 0 ≤ r ∧ r < 128) : (if 65 ≤ r ∧ r ≤ 70 then r + 32 else r) < 128 ∧ 0 ≤ (if 65 ≤ r ∧ r ≤ 70 then r + 32 else r) ∧ Lib.indexByte (⟨#[48, 49, 50, 51, 52, 53, 54, 55, 56, 57, 97, 98, 99, 100, 101, 102]⟩ : ByteArray).data.toList (if 65 ≤ r ∧ r ≤ 70 then r + 32 else r).toNat.toUInt8 = dig r := by
  have : ∀ i : Fin 128, Lib.indexByte (⟨#[48, 49, 50, 51, 52, 53, 54, 55, 56, 57, 97, 98, 99, 100, 101, 102]⟩ : ByteArray).data.toList (if 65 ≤ (i.1 : Int) ∧ (i.1 : Int) ≤ 70 then (i.1 : Int) + 32 else (i.1 : Int)).toNat.toUInt8 = dig (i.1 : Int) := by decide +kernel
  have h1 := this ⟨r.toNat, by omega⟩
  simp only at h1
  rw [Int.toNat_of_nonneg h.1] at h1
  refine ⟨?_, ?_, h1⟩
  · split <;> omega
  · split <;> omega
theorem none_high (b : UInt8) (h : 128 ≤ b.toNat) (k : Nat) (hk : k = 2 ∨ k = 3 ∨ k = 4) : Lib.indexByte ((⟨#[48, 49, 50, 51, 52, 53, 54, 55, 56, 57, 97, 98, 99, 100, 101, 102]⟩ : ByteArray).extract k 16).data.toList b = -1 := by
  have q : ∀ i : Fin 256, 128 ≤ i.1 → Lib.indexByte ((⟨#[48, 49, 50, 51, 52, 53, 54, 55, 56, 57, 97, 98, 99, 100, 101, 102]⟩ : ByteArray).extract 2 16).data.toList (UInt8.ofNat i.1) = -1 ∧ Lib.indexByte ((⟨#[48, 49, 50, 51, 52, 53, 54, 55, 56, 57, 97, 98, 99, 100, 101, 102]⟩ : ByteArray).extract 3 16).data.toList (UInt8.ofNat i.1) = -1 ∧ Lib.indexByte ((⟨#[48, 49, 50, 51, 52, 53, 54, 55, 56, 57, 97, 98, 99, 100, 101, 102]⟩ : ByteArray).extract 4 16).data.toList (UInt8.ofNat i.1) = -1 := by decide +kernel
  have := q ⟨b.toNat, b.toNat_lt⟩ h
  simp only [UInt8.ofNat_toNat] at this
  rcases hk with rfl | rfl | rfl
  · exact this.1
  · exact this.2.1
  · exact this.2.2
set_option maxHeartbeats 4000000 in
set_option maxRecDepth 100000 in
theorem idx_high (r : Int) (w : World) (h : 128 ≤ r ∧ r ≤ 2147483647) :
    Calls Try.prog 18 #[.string ⟨#[48, 49, 50, 51, 52, 53, 54, 55, 56, 57, 97, 98, 99, 100, 101, 102]⟩, .int .i32 r] w fun e w' => e = .returned (.int .i64 (-1)) ∧ Below w.heap.size w w' := by
  go_enter Try.func18, Try.ntmps18
  by_cases h1 : r = 65533
  · subst h1
    go_wp2
    go_loopw [5] (fun _ wr => ∃ k : Nat, k ≤ 16 ∧ wr.heap[w.heap.size]? = some (.stringIter ⟨#[48, 49, 50, 51, 52, 53, 54, 55, 56, 57, 97, 98, 99, 100, 101, 102]⟩ k) ∧ Below w.heap.size w wr) (fun _ wr => 16 - wr.iterPos w.heap.size)
    case atStart => exact ⟨0, by omega, heap_alloc_new _ _, (Below.refl _ _).alloc (Nat.le_refl _) _⟩
    case round =>
      obtain ⟨k, hk, hit, hb⟩ := hrel
      by_cases hlt : k < 16
      · have hr := hexd_rng k hlt
        have hh := hex_at k hlt
        have hnx := fun ty => Lib.run_next_ascii_at (P := Try.prog) wr w.heap.size ⟨#[48, 49, 50, 51, 52, 53, 54, 55, 56, 57, 97, 98, 99, 100, 101, 102]⟩ k ty hit hlt (by omega)
        rw [hh] at hnx
        have hit2 := Lib.iterAt_heap wr w.heap.size ⟨#[48, 49, 50, 51, 52, 53, 54, 55, 56, 57, 97, 98, 99, 100, 101, 102]⟩ k (k + 1) hit
        have hb2 := Lib.below_iterAt hb (Nat.le_refl w.heap.size) ⟨#[48, 49, 50, 51, 52, 53, 54, 55, 56, 57, 97, 98, 99, 100, 101, 102]⟩ (k + 1)
        have hne : (hexd k == 65533) = false := by rw [beq_eq_false_iff_ne]; omega
        go_wp2
        refine ⟨⟨k + 1, hlt, hit2, hb2⟩, ?_⟩
        simp [World.iterPos, hit, hit2]
        omega
      · obtain rfl : k = 16 := by omega
        have hnx := fun ty => Lib.run_next_end_at (P := Try.prog) wr w.heap.size ⟨#[48, 49, 50, 51, 52, 53, 54, 55, 56, 57, 97, 98, 99, 100, 101, 102]⟩ 16 ty hit (by decide)
        go_wp2
        go_ret
        exact ⟨rfl, hb⟩
  · by_cases h2 : Lib.validRune r = true
    · have hE := enc_high r h.1
      go_wp2_with fail
      refine (Try.utf8_ValidRune r w).mono ?_
      rintro e w' ⟨rfl, rfl⟩
      rw [h2]
      rcases hE with ⟨a, b, hE, hb⟩ | ⟨a, c, b, hE, hb⟩ | ⟨a, c, d, b, hE, hb⟩
      · have hn := none_high b hb 2 (by omega)
        have hne : ((49 : Int) == (b.toNat : Int)) = false := by rw [beq_eq_false_iff_ne]; omega
        have hne' : ((49 : Int) != (b.toNat : Int)) = true := by rw [bne_iff_ne]; omega
        have hx1 : (⟨#[48, 49, 50, 51, 52, 53, 54, 55, 56, 57, 97, 98, 99, 100, 101, 102]⟩ : ByteArray)[1].toNat = 49 := rfl
        have hx2 : ((⟨#[a, b]⟩ : ByteArray)[1]'(by show 1 < 2; omega)).toNat = b.toNat := rfl
        have hnn : ∀ W : World, Calls Try.prog 22 #[.string ((⟨#[48, 49, 50, 51, 52, 53, 54, 55, 56, 57, 97, 98, 99, 100, 101, 102]⟩ : ByteArray).extract 2 16), .int .u8 b.toNat] W fun e W' => e = .returned (.int .i64 (-1)) ∧ W' = W := by
          intro W
          refine (Try.strings_IndexByte _ _ W).mono ?_
          rintro e W' ⟨rfl, rfl⟩
          refine ⟨?_, rfl⟩
          rw [show ((b.toNat : Int)).toNat.toUInt8 = b by simp, hn]
        go_wp2
        go_step3
        go_wp2
        go_loopw [9] (fun i wr => i = .int .i64 1 ∧ wr = w') (fun _ _ => 0)
        case atStart => exact ⟨rfl, rfl⟩
        case round =>
          obtain ⟨rfl, rfl⟩ := hrel
          go_wp2
          go_step3
          go_wp2
          go_region
          go_wp2
          go_region_with (go_at_call 22; refine (hnn _).mono ?_; rintro e w3 ⟨rfl, rfl⟩)
          all_goals go_wp2
          all_goals simp only [Exit.noGoto]
          all_goals go_wp2
          all_goals simp only [Exit.noGoto]
          all_goals go_wp2
          all_goals go_ret
          all_goals exact ⟨rfl, (Below.refl _ _).drew.drew⟩
      · have hn := none_high b hb 3 (by omega)
        have hne : ((50 : Int) == (b.toNat : Int)) = false := by rw [beq_eq_false_iff_ne]; omega
        have hne' : ((50 : Int) != (b.toNat : Int)) = true := by rw [bne_iff_ne]; omega
        have hx1 : (⟨#[48, 49, 50, 51, 52, 53, 54, 55, 56, 57, 97, 98, 99, 100, 101, 102]⟩ : ByteArray)[2].toNat = 50 := rfl
        have hx2 : ((⟨#[a, c, b]⟩ : ByteArray)[2]'(by show 2 < 3; omega)).toNat = b.toNat := rfl
        have hnn : ∀ W : World, Calls Try.prog 22 #[.string ((⟨#[48, 49, 50, 51, 52, 53, 54, 55, 56, 57, 97, 98, 99, 100, 101, 102]⟩ : ByteArray).extract 3 16), .int .u8 b.toNat] W fun e W' => e = .returned (.int .i64 (-1)) ∧ W' = W := by
          intro W
          refine (Try.strings_IndexByte _ _ W).mono ?_
          rintro e W' ⟨rfl, rfl⟩
          refine ⟨?_, rfl⟩
          rw [show ((b.toNat : Int)).toNat.toUInt8 = b by simp, hn]
        go_wp2
        go_step3
        go_wp2
        go_loopw [9] (fun i wr => i = .int .i64 2 ∧ wr = w') (fun _ _ => 0)
        case atStart => exact ⟨rfl, rfl⟩
        case round =>
          obtain ⟨rfl, rfl⟩ := hrel
          go_wp2
          go_step3
          go_wp2
          go_region
          go_wp2
          go_region_with (go_at_call 22; refine (hnn _).mono ?_; rintro e w3 ⟨rfl, rfl⟩)
          all_goals go_wp2
          all_goals simp only [Exit.noGoto]
          all_goals go_wp2
          all_goals simp only [Exit.noGoto]
          all_goals go_wp2
          all_goals go_ret
          all_goals exact ⟨rfl, (Below.refl _ _).drew.drew⟩
      · have hn := none_high b hb 4 (by omega)
        have hne : ((51 : Int) == (b.toNat : Int)) = false := by rw [beq_eq_false_iff_ne]; omega
        have hne' : ((51 : Int) != (b.toNat : Int)) = true := by rw [bne_iff_ne]; omega
        have hx1 : (⟨#[48, 49, 50, 51, 52, 53, 54, 55, 56, 57, 97, 98, 99, 100, 101, 102]⟩ : ByteArray)[3].toNat = 51 := rfl
        have hx2 : ((⟨#[a, c, d, b]⟩ : ByteArray)[3]'(by show 3 < 4; omega)).toNat = b.toNat := rfl
        have hnn : ∀ W : World, Calls Try.prog 22 #[.string ((⟨#[48, 49, 50, 51, 52, 53, 54, 55, 56, 57, 97, 98, 99, 100, 101, 102]⟩ : ByteArray).extract 4 16), .int .u8 b.toNat] W fun e W' => e = .returned (.int .i64 (-1)) ∧ W' = W := by
          intro W
          refine (Try.strings_IndexByte _ _ W).mono ?_
          rintro e W' ⟨rfl, rfl⟩
          refine ⟨?_, rfl⟩
          rw [show ((b.toNat : Int)).toNat.toUInt8 = b by simp, hn]
        go_wp2
        go_step3
        go_wp2
        go_loopw [9] (fun i wr => i = .int .i64 3 ∧ wr = w') (fun _ _ => 0)
        case atStart => exact ⟨rfl, rfl⟩
        case round =>
          obtain ⟨rfl, rfl⟩ := hrel
          go_wp2
          go_step3
          go_wp2
          go_region
          go_wp2
          go_region_with (go_at_call 22; refine (hnn _).mono ?_; rintro e w3 ⟨rfl, rfl⟩)
          all_goals go_wp2
          all_goals simp only [Exit.noGoto]
          all_goals go_wp2
          all_goals simp only [Exit.noGoto]
          all_goals go_wp2
          all_goals go_ret
          all_goals exact ⟨rfl, (Below.refl _ _).drew.drew⟩
    · go_wp2_with fail
      refine (Try.utf8_ValidRune r w).mono ?_
      rintro e w' ⟨rfl, rfl⟩
      replace h2 : Lib.validRune r = false := by simpa using h2
      rw [h2]
      go_wp2
      go_ret
      exact ⟨rfl, Below.refl _ _⟩
end Go.Proofs.Ytbigpcpifbjkfaa
