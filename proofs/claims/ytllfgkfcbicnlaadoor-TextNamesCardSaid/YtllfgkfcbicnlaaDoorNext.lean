/- Contracts of text.Next, text.Back, of the law's own next, back, alive. Conditions: a place that an int holds; Go's two tables of utf8. -/
import Derived.Test.YtllfgkfcbicnlaaDoorOwn
import Derived.Test.YtllfgkfcbicnlaaDoorUtf
import Derived.Test.YtllfgkfcbicnlaaDoorShelf
import Derived.WalkLawsBesides
import Derived.WalkSpells
import Derived.Lib.LaidU8
namespace Go.Proofs.YtllfgkfcbicnlaaDoor
open Go.RowKit Go.Lib
def told (d : Nat × Nat) : Nat × Nat × Nat := if d.1 = 65533 ∧ d.2 < 3 then (0, 0, 10) else (d.1, d.2, 0)
def nextV (s : ByteArray) (a : Int) : Nat × Nat × Nat := if a < 0 ∨ (s.size : Int) ≤ a then (0, 0, 2) else told (dec (byt s) s.size a.toNat)
def backV (s : ByteArray) (a : Int) : Nat × Nat × Nat := if a < 1 ∨ (s.size : Int) < a then (0, 0, 2) else told (decLast (byt s) a.toNat)
theorem dec_bd (B : Nat → Nat) (hb : ∀ j, B j < 256) (n i : Nat) : (dec B n i).1 ≤ 1114111 ∧ 1 ≤ (dec B n i).2 ∧ (dec B n i).2 ≤ 4 := by
  refine ⟨Lib.decodeN_rune_le _ _ _ _ _ (hb _), Lib.decodeN_ge1 _ _ _ _ _, ?_⟩
  unfold dec decodeN
  repeat' split
  all_goals simp
theorem decLast_bd (B : Nat → Nat) (hb : ∀ j, B j < 256) (e : Nat) : (decLast B e).1 ≤ 1114111 ∧ (decLast B e).2 ≤ 4 := by
  unfold decLast
  have := dec_bd B hb e (st B e)
  have := hb (e - 1)
  repeat' split
  all_goals (try simp only)
  all_goals omega
theorem told_any (p k : Nat) (w : World) (hp : p ≤ 1114111) (hk : k ≤ 4) :
    Calls Tryd.prog 22 #[.int .i32 p, .int .i64 k] w fun e w' => e = .returned (.tuple #[.int .i64 (told (p, k)).1, .int .i64 (told (p, k)).2.1, .int .i64 (told (p, k)).2.2]) ∧ w' = w := by
  by_cases h : p = 65533
  · subst h
    by_cases h2 : k < 3
    · have e1 : told (65533, k) = (0, 0, 10) := by simp [told, h2]
      have h3 : (k : Int) < 3 := by omega
      rw [e1]
      go_enter Tryd.func22, Tryd.ntmps22
      go_wp2
      go_ret3
      exact ⟨rfl, rfl⟩
    · have e1 : told (65533, k) = (65533, k, 0) := by simp [told, h2]
      have h3 : ¬ (k : Int) < 3 := by omega
      rw [e1]
      go_enter Tryd.func22, Tryd.ntmps22
      go_wp2
      go_ret3
      exact ⟨rfl, rfl⟩
  · have e1 : told (p, k) = (p, k, 0) := by simp [told, h]
    have h3 : ((p : Int) == 65533) = false := by rw [beq_eq_false_iff_ne]; omega
    have h4 : (p : Int) ≤ 1114111 := by omega
    rw [e1]
    go_enter Tryd.func22, Tryd.ntmps22
    go_wp2
    go_ret3
    exact ⟨rfl, rfl⟩
abbrev Tabs (w : World) : Prop := Lib.Utf8Tabs 0 1 w
theorem Tabs.below {w w' : World} (h : Tabs w) (hb : Below w.heap.size w w') : Tabs w' := Utf8Tabs_below h hb
theorem next_any (s : ByteArray) (a : Int) (w : World) (hT : Tabs w) :
    Calls Tryd.prog 9 #[.string s, .int .i64 a] w fun e w' => e = .returned (.tuple #[.int .i64 (nextV s a).1, .int .i64 (nextV s a).2.1, .int .i64 (nextV s a).2.2]) ∧ Below w.heap.size w w' := by
  by_cases h0 : a < 0
  · have e1 : nextV s a = (0, 0, 2) := by simp [nextV, h0]
    rw [e1]
    go_enter Tryd.func9, Tryd.ntmps9
    go_wp2
    go_ret3
    exact ⟨rfl, Below.refl _ _⟩
  · obtain ⟨k, rfl⟩ : ∃ k : Nat, a = (k : Int) := ⟨a.toNat, by omega⟩
    by_cases h1 : k < s.size
    · have e1 : nextV s (k : Int) = told (dec (byt s) s.size k) := by
        unfold nextV
        rw [if_neg (by omega)]
        simp
      have hd := decodeGo_dec s k h1
      have hbd := dec_bd (byt s) (byt_lt s) s.size k
      obtain ⟨⟨p, m⟩, hpm⟩ : ∃ d, dec (byt s) s.size k = d := ⟨_, rfl⟩
      rw [e1, hpm]
      rw [hpm] at hd hbd
      have hc := Tryd.utf8_DecodeRuneInString (s.extract k s.size) w hT
      rw [hd] at hc
      clear e1 hd hpm
      go_enter Tryd.func9, Tryd.ntmps9
      go_wp2_with fail
      refine hc.mono ?_
      rintro e w1 ⟨rfl, hb1⟩
      go_wp2_with fail
      refine (told_any p m _ hbd.1 hbd.2.2).mono ?_
      rintro e w2 ⟨rfl, rfl⟩
      go_wp2
      go_ret3
      exact ⟨rfl, hb1⟩
    · have e1 : nextV s (k : Int) = (0, 0, 2) := by
        unfold nextV
        rw [if_pos (by omega)]
      have h2 : (s.size : Int) ≤ k := by omega
      rw [e1]
      go_enter Tryd.func9, Tryd.ntmps9
      go_wp2
      go_ret3
      exact ⟨rfl, Below.refl _ _⟩
theorem back_any (s : ByteArray) (a : Int) (w : World) (hs : s.size ≤ maxLen) (hT : Tabs w) :
    Calls Tryd.prog 10 #[.string s, .int .i64 a] w fun e w' => e = .returned (.tuple #[.int .i64 (backV s a).1, .int .i64 (backV s a).2.1, .int .i64 (backV s a).2.2]) ∧ Below w.heap.size w w' := by
  unfold maxLen at hs
  by_cases h0 : a < 1
  · have e1 : backV s a = (0, 0, 2) := by simp [backV, h0]
    rw [e1]
    go_enter Tryd.func10, Tryd.ntmps10
    go_wp2
    go_ret3
    exact ⟨rfl, Below.refl _ _⟩
  · obtain ⟨k, rfl⟩ : ∃ k : Nat, a = (k : Int) := ⟨a.toNat, by omega⟩
    by_cases h1 : k ≤ s.size
    · have e1 : backV s (k : Int) = told (decLast (byt s) k) := by
        unfold backV
        rw [if_neg (by omega)]
        simp
      have hd := decodeLast_dec s k h1
      have hbd := decLast_bd (byt s) (byt_lt s) k
      obtain ⟨⟨p, m⟩, hpm⟩ : ∃ d, decLast (byt s) k = d := ⟨_, rfl⟩
      rw [e1, hpm]
      rw [hpm] at hd hbd
      have hz : (s.extract 0 k).size ≤ 9223372036854775807 := by
        rw [ByteArray.size_extract]
        omega
      have hc := Tryd.utf8_DecodeLastRuneInString (s.extract 0 k) w hz hT
      rw [hd] at hc
      clear e1 hd hpm
      have h2 : ¬ (s.size : Int) < k := by omega
      go_enter Tryd.func10, Tryd.ntmps10
      go_wp2_with fail
      refine hc.mono ?_
      rintro e w1 ⟨rfl, hb1⟩
      go_wp2_with fail
      refine (told_any p m _ hbd.1 hbd.2).mono ?_
      rintro e w2 ⟨rfl, rfl⟩
      go_wp2
      go_ret3
      exact ⟨rfl, hb1⟩
    · have e1 : backV s (k : Int) = (0, 0, 2) := by
        unfold backV
        rw [if_pos (by omega)]
      have h2 : (s.size : Int) < k := by omega
      rw [e1]
      go_enter Tryd.func10, Tryd.ntmps10
      go_wp2
      go_ret3
      exact ⟨rfl, Below.refl _ _⟩
theorem lnext_any (s : ByteArray) (a : Int) (p k e : Nat) (w : World) (hT : Tabs w) (h : nextV s a = (p, k, e)) :
    Calls Tryd.prog 12 #[.string s, .int .i64 a, .int .i64 p, .int .i64 k, .int .i64 e] w fun e w' => e = .returned (.bool true) ∧ Below w.heap.size w w' := by
  have hc := next_any s a w hT
  rw [h] at hc
  clear h
  go_enter Tryd.func12, Tryd.ntmps12
  go_wp2_with fail
  refine hc.mono ?_
  rintro e w1 ⟨rfl, hb1⟩
  go_wp2
  go_ret
  exact ⟨rfl, hb1⟩
theorem lback_any (s : ByteArray) (a : Int) (p k e : Nat) (w : World) (hs : s.size ≤ maxLen) (hT : Tabs w) (h : backV s a = (p, k, e)) :
    Calls Tryd.prog 11 #[.string s, .int .i64 a, .int .i64 p, .int .i64 k, .int .i64 e] w fun e w' => e = .returned (.bool true) ∧ Below w.heap.size w w' := by
  have hc := back_any s a w hs hT
  rw [h] at hc
  clear h
  go_enter Tryd.func11, Tryd.ntmps11
  go_wp2_with fail
  refine hc.mono ?_
  rintro e w1 ⟨rfl, hb1⟩
  go_wp2
  go_ret
  exact ⟨rfl, hb1⟩
def euro : ByteArray := ⟨#[97, 226, 130, 172]⟩
theorem alive_any (w : World) (hT : Tabs w) : Calls Tryd.prog 8 #[] w fun e w' => e = .returned (.bool true) ∧ Below w.heap.size w w' := by
  have n1 : nextV euro 1 = (8364, 3, 0) := by decide +kernel
  have n2 : backV euro 4 = (8364, 3, 0) := by decide +kernel
  have n3 : backV euro 1 = (97, 1, 0) := by decide +kernel
  have hz : euro.size ≤ maxLen := by unfold maxLen; decide
  go_enter Tryd.func8, Tryd.ntmps8
  go_wp2_with fail
  refine (lnext_any euro 1 8364 3 0 _ hT n1).mono ?_
  rintro e w1 ⟨rfl, hb1⟩
  go_wp2_with fail
  refine (lback_any euro 4 8364 3 0 _ hz (hT.below hb1) n2).mono ?_
  rintro e w2 ⟨rfl, hb2⟩
  go_wp2_with fail
  refine (lback_any euro 1 97 1 0 _ hz ((hT.below hb1).below hb2) n3).mono ?_
  rintro e w3 ⟨rfl, hb3⟩
  go_wp2
  go_ret
  have hb := hb2.trans (hb3.mono hb2.size)
  exact ⟨rfl, hb1.trans (hb.mono hb1.size)⟩
end Go.Proofs.YtllfgkfcbicnlaaDoor
