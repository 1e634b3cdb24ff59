/- The reference's Points, Check, Count. Conditions: at most 2,000,000 bytes. -/
import Derived.Test.YtmaefhnlipcmoaaDoorRefNext
import Derived.Test.YtmaefhnlipcmoaaDoorApp
import Derived.Test.YtmaefhnlipcmoaaDoorCheck
namespace Go.Proofs.YtmaefhnlipcmoaaDoor
open Go.RowKit Go.Lib
theorem info_int : (Tryd.prog.info? 3).map (fun i => (i.zero, i.size, i.bytes)) = some (some (.int .i64 0), 1, 8) := by kernel_rfl
theorem dec_err (B : Nat → Nat) (n i : Nat) (h : (dec B n i).1 = 65533) : (dec B n i).2 ≠ 2 := by
  have key : (dec B n i).2 ≠ 2 ∨ (dec B n i).1 ≤ 2047 := by
    unfold dec decodeN
    repeat' split
    all_goals (try simp only)
    all_goals omega
  omega
theorem next_dec {s : ByteArray} {i : Nat} (hi : i < s.size) :
    (((dec (byt s) s.size i).1 = 65533 ∧ (dec (byt s) s.size i).2 = 1) ∧ nextV s (i : Int) = (0, 0, 10)) ∨
    (¬ ((dec (byt s) s.size i).1 = 65533 ∧ (dec (byt s) s.size i).2 = 1) ∧ nextV s (i : Int) = ((dec (byt s) s.size i).1, (dec (byt s) s.size i).2, 0) ∧ At (byt s) s.size i (dec (byt s) s.size i).1 (dec (byt s) s.size i).2) := by
  have h1 := dec_err (byt s) s.size i
  have h2 := dec_bd (byt s) (byt_lt s) s.size i
  have e : nextV s (i : Int) = told (dec (byt s) s.size i) := by
    unfold nextV
    rw [if_neg (by omega), show (i : Int).toNat = i by omega]
  rw [e]
  unfold told
  by_cases g : (dec (byt s) s.size i).1 = 65533 ∧ (dec (byt s) s.size i).2 < 3
  · left
    rw [if_pos g]
    exact ⟨⟨g.1, by have := h1 g.1; omega⟩, rfl⟩
  · right
    rw [if_neg g]
    exact ⟨fun h => g ⟨h.1, by omega⟩, rfl, at_of_dec (byt_lt s) hi g⟩
def PtsPost (s : ByteArray) (e : Ending) : Prop :=
  (Lib.validD s.data.toList = true ∧ ∃ A c, e = .returned (.tuple #[.slice A (Lib.runeCount s) c, .bool true])) ∨ (Lib.validD s.data.toList = false ∧ e = .returned (.tuple #[.slice none 0 0, .bool false]))
set_option maxHeartbeats 2000000 in
theorem points_any (s : ByteArray) (w : World) (hs : s.size ≤ 2000000) :
    Calls Tryd.prog 68 #[.string s] w fun e w' => PtsPost s e ∧ Below w.heap.size w w' := by
  obtain ⟨i0, hi, hz0, hz1, hz2⟩ := info_parts info_int
  obtain ⟨V, hV⟩ : ∃ V, Lib.validD s.data.toList = V := ⟨_, rfl⟩
  obtain ⟨M, hM⟩ : ∃ M, Lib.runeCount s = M := ⟨_, rfl⟩
  have post_true : V = true → ∀ A c, PtsPost s (.returned (.tuple #[.slice A M c, .bool true])) := fun h A c => .inl ⟨by rw [hV, h], A, c, by rw [hM]⟩
  have post_false : V = false → PtsPost s (.returned (.tuple #[.slice none 0 0, .bool false])) := fun h => .inr ⟨by rw [hV, h], rfl⟩
  have HV := Lib.hid hV
  have HM := Lib.hid hM
  have hsI : (s.size : Int) ≤ 2000000 := by omega
  clear hV hM
  go_enter Tryd.func68, Tryd.ntmps68
  go_wp2
  go_loopw [4, 5] (fun v a wr => ∃ (i f acc : Nat) (xs : List Value), a = .int .i64 i ∧ i ≤ s.size ∧ s.size ≤ i + f ∧ acc ≤ i ∧ acc + Lib.runeCountFrom s f i = M ∧ valids (byt s) s.size f i = V ∧ wr.ownsRow w.heap.size 3 1 v acc xs ∧ Below w.heap.size w wr) (fun _ a _ => s.size - (RowKit.intOf a).toNat)
  case atStart =>
    refine ⟨0, s.size, 0, [], rfl, by omega, by omega, by omega, ?_, ?_, World.ownsRow_nil _ _ _ _, Below.refl _ _⟩
    · rw [← HM.out, Nat.zero_add]; rfl
    · rw [← HV.out, validD_dec]
  case round =>
    obtain ⟨i, f, acc, xs, rfl, h1, h2, h3, h4, h5, hown, hb⟩ := hrel
    by_cases hlt : i < s.size
    · obtain ⟨f, rfl⟩ : ∃ g, f = g + 1 := ⟨f - 1, by omega⟩
      have hn := refnext_any s i wr hs
      rcases next_dec hlt with ⟨g1, g2⟩ | ⟨g1, g2, g3⟩
      · have hVf : V = false := by rw [← h5, valids, if_neg (by omega), if_pos g1]
        have hP := post_false hVf
        rw [g2] at hn
        clear post_true post_false h4 h5 g1 g2 hVf
        go_wp2_with fail
        refine hn.mono ?_
        rintro e w2 ⟨rfl, hb2⟩
        go_wp2
        go_ret2
        exact ⟨hP, hb.trans (hb2.mono hb.size)⟩
      · have g4 := g3.end_le
        have h5' : valids (byt s) s.size f (i + (dec (byt s) s.size i).2) = V := by rw [← h5, valids, if_neg (by omega), if_neg g1]
        have h4' : (acc + 1) + Lib.runeCountFrom s f (i + (dec (byt s) s.size i).2) = M := by
          rw [← h4, Lib.runeCountFrom, if_pos hlt, decode_dec]
          omega
        rw [g2] at hn
        obtain ⟨⟨p, k⟩, hpk⟩ : ∃ d, dec (byt s) s.size i = d := ⟨_, rfl⟩
        rw [hpk] at hn h5' h4' g4
        simp only at g4
        have H4 := Lib.hid h4'
        have H5 := Lib.hid h5'
        clear post_true post_false h4 h5 g1 g2 g3 hpk h4' h5'
        go_wp2_with fail
        refine hn.mono ?_
        rintro e w2 ⟨rfl, hb2⟩
        have hown2 := own_below hown hb2 (own_lt hown)
        have hB2 := hb.trans (hb2.mono hb.size)
        have hbs := hB2.size
        clear hn hown hb2
        obtain ⟨A, c, rfl, ha1, ha2⟩ := own_slice hown2
        go_wp2_with (first | (at_builtin; refine wpList_append_rd _ (by rfl) _ _ _ (by rfl) w.heap.size 3 i0 (.int .i64 0) 8 Tryd.underlying37 hi hz0 hz1 hz2 (by rfl) (.slice A acc c) acc xs (by rfl) (hown2.alloc _) (B := w2.heap.size + 1) (some ⟨w2.heap.size, 0, none⟩) 1 1 [.int .i64 p] (by rfl) (rd_new w2 #[.int .i64 p] 3 [.int .i64 p] rfl) rfl (by simp [Value.oneCell']) (by unfold maxLen; omega) (by omega) (by simp; omega) ?_; intro v5 w3 hown3 hgrow hrow; have hB3 : Below w.heap.size w w3 := Below.grown (hB2.alloc (by omega) _) hgrow (by simp; omega) hrow))
        go_roundw
        case rel => exact ⟨i + k, f, acc + 1, xs ++ [.int .i64 p], by go_num, by omega, by omega, by omega, H4.out, H5.out, hown3, hB3⟩
        case measure => simp [RowKit.intOf]; omega
    · have hi' : i = s.size := by omega
      have hVt : V = true := by
        rw [← h5]
        cases f with
        | zero => rfl
        | succ f => rw [valids, if_pos (by omega)]
      have hacc : acc = M := by
        rw [Lib.runeCountFrom_end s f i hlt] at h4
        omega
      subst hacc
      obtain ⟨A, c, rfl, ha1, ha2⟩ := own_slice hown
      have hP := post_true hVt A c
      have hge : (s.size : Int) ≤ i := by omega
      clear post_true post_false h4 h5 hi' hVt hown HV HM
      go_wp2
      go_ret2
      exact ⟨hP, hb⟩
end Go.Proofs.YtmaefhnlipcmoaaDoor
