/- The reference's Points, Check, Count. Conditions: at most 17,000 bytes. -/
import Derived.Test.YtllfgkfcbicnlaaDoorRefNext
import Derived.Test.YtllfgkfcbicnlaaDoorApp
import Derived.Test.YtllfgkfcbicnlaaDoorCheck
namespace Go.Proofs.YtllfgkfcbicnlaaDoor
open Go.RowKit Go.Lib
theorem info_int : (Tryd.prog.info? 3).map (fun i => (i.zero, i.size, i.bytes)) = some (some (.int .i64 0), 1, 8) := by kernel_rfl
theorem dec_err (B : Nat → Nat) (n i : Nat) (h : (dec B n i).1 = 65533) : (dec B n i).2 ≠ 2 := by
  have key : (dec B n i).2 ≠ 2 ∨ (dec B n i).1 ≤ 2047 := by
    unfold dec decodeN
    repeat' split
    all_goals (try simp only)
    all_goals omega
  omega
theorem next_dec {s : ByteArray} {i : Nat} (hi : i < s.size) :
    (((dec (byt s) s.size i).1 = 65533 ∧ (dec (byt s) s.size i).2 = 1) ∧ nextV s (i : Int) = (0, 0, 10)) ∨
    (¬ ((dec (byt s) s.size i).1 = 65533 ∧ (dec (byt s) s.size i).2 = 1) ∧ nextV s (i : Int) = ((dec (byt s) s.size i).1, (dec (byt s) s.size i).2, 0) ∧ At (byt s) s.size i (dec (byt s) s.size i).1 (dec (byt s) s.size i).2) := by
  have h1 := dec_err (byt s) s.size i
  have h2 := dec_bd (byt s) (byt_lt s) s.size i
  have e : nextV s (i : Int) = told (dec (byt s) s.size i) := by
    unfold nextV
    rw [if_neg (by omega), show (i : Int).toNat = i by omega]
  rw [e]
  unfold told
  by_cases g : (dec (byt s) s.size i).1 = 65533 ∧ (dec (byt s) s.size i).2 < 3
  · left
    rw [if_pos g]
    exact ⟨⟨g.1, by have := h1 g.1; omega⟩, rfl⟩
  · right
    rw [if_neg g]
    exact ⟨fun h => g ⟨h.1, by omega⟩, rfl, at_of_dec (byt_lt s) hi g⟩
def PtsPost (s : ByteArray) (e : Ending) : Prop :=
  (Lib.validD s.data.toList = true ∧ ∃ A c, e = .returned (.tuple #[.slice A (Lib.runeCount s) c, .bool true])) ∨ (Lib.validD s.data.toList = false ∧ e = .returned (.tuple #[.slice none 0 0, .bool false]))
set_option maxHeartbeats 2000000 in
theorem points_any (s : ByteArray) (w : World) (hs : s.size ≤ 17000) :
    Calls Tryd.prog 30 #[.string s] w fun e w' => PtsPost s e ∧ Below w.heap.size w w' := by
  obtain ⟨i0, hi, hz0, hz1, hz2⟩ := info_parts info_int
  obtain ⟨V, hV⟩ : ∃ V, Lib.validD s.data.toList = V := ⟨_, rfl⟩
  obtain ⟨M, hM⟩ : ∃ M, Lib.runeCount s = M := ⟨_, rfl⟩
  have post_true : V = true → ∀ A c, PtsPost s (.returned (.tuple #[.slice A M c, .bool true])) := fun h A c => .inl ⟨by rw [hV, h], A, c, by rw [hM]⟩
  have post_false : V = false → PtsPost s (.returned (.tuple #[.slice none 0 0, .bool false])) := fun h => .inr ⟨by rw [hV, h], rfl⟩
  have HV := Lib.hid hV
  have HM := Lib.hid hM
  have hsI : (s.size : Int) ≤ 17000 := by omega
  clear hV hM
  go_enter Tryd.func30, Tryd.ntmps30
  go_wp2
  go_loopw [4, 5] (fun v a wr => ∃ (i f acc : Nat) (xs : List Value), a = .int .i64 i ∧ i ≤ s.size ∧ s.size ≤ i + f ∧ acc ≤ i ∧ acc + Lib.runeCountFrom s f i = M ∧ valids (byt s) s.size f i = V ∧ wr.ownsRow w.heap.size 3 1 v acc xs ∧ Below w.heap.size w wr) (fun _ a _ => s.size - (RowKit.intOf a).toNat)
  case atStart =>
    refine ⟨0, s.size, 0, [], rfl, by omega, by omega, by omega, ?_, ?_, World.ownsRow_nil _ _ _ _, Below.refl _ _⟩
    · rw [← HM.out, Nat.zero_add]; rfl
    · rw [← HV.out, validD_dec]
  case round =>
    obtain ⟨i, f, acc, xs, rfl, h1, h2, h3, h4, h5, hown, hb⟩ := hrel
    by_cases hlt : i < s.size
    · obtain ⟨f, rfl⟩ : ∃ g, f = g + 1 := ⟨f - 1, by omega⟩
      have hn := refnext_any s i wr hs
      rcases next_dec hlt with ⟨g1, g2⟩ | ⟨g1, g2, g3⟩
      · have hVf : V = false := by rw [← h5, valids, if_neg (by omega), if_pos g1]
        have hP := post_false hVf
        rw [g2] at hn
        clear post_true post_false h4 h5 g1 g2 hVf
        go_wp2_with fail
        refine hn.mono ?_
        rintro e w2 ⟨rfl, hb2⟩
        go_wp2
        go_ret2
        exact ⟨hP, hb.trans (hb2.mono hb.size)⟩
      · have g4 := g3.end_le
        have h5' : valids (byt s) s.size f (i + (dec (byt s) s.size i).2) = V := by rw [← h5, valids, if_neg (by omega), if_neg g1]
        have h4' : (acc + 1) + Lib.runeCountFrom s f (i + (dec (byt s) s.size i).2) = M := by
          rw [← h4, Lib.runeCountFrom, if_pos hlt, decode_dec]
          omega
        rw [g2] at hn
        obtain ⟨⟨p, k⟩, hpk⟩ : ∃ d, dec (byt s) s.size i = d := ⟨_, rfl⟩
        rw [hpk] at hn h5' h4' g4
        simp only at g4
        have H4 := Lib.hid h4'
        have H5 := Lib.hid h5'
        clear post_true post_false h4 h5 g1 g2 g3 hpk h4' h5'
        go_wp2_with fail
        refine hn.mono ?_
        rintro e w2 ⟨rfl, hb2⟩
        have hown2 := own_below hown hb2 (own_lt hown)
        have hB2 := hb.trans (hb2.mono hb.size)
        have hbs := hB2.size
        clear hn hown hb2
        obtain ⟨A, c, rfl, ha1, ha2⟩ := own_slice hown2
        go_wp2_with (first | (at_builtin; refine wpList_append_rd _ (by rfl) _ _ _ (by rfl) w.heap.size 3 i0 (.int .i64 0) 8 Tryd.underlying36 hi hz0 hz1 hz2 (by rfl) (.slice A acc c) acc xs (by rfl) (hown2.alloc _) (B := w2.heap.size + 1) (some ⟨w2.heap.size, 0, none⟩) 1 1 [.int .i64 p] (by rfl) (rd_new w2 #[.int .i64 p] 3 [.int .i64 p] rfl) rfl (by simp [Value.oneCell']) (by unfold maxLen; omega) (by omega) (by simp; omega) ?_; intro v5 w3 hown3 hgrow hrow; have hB3 : Below w.heap.size w w3 := Below.grown (hB2.alloc (by omega) _) hgrow (by simp; omega) hrow))
        go_roundw
        case rel => exact ⟨i + k, f, acc + 1, xs ++ [.int .i64 p], by go_num, by omega, by omega, by omega, H4.out, H5.out, hown3, hB3⟩
        case measure => simp [RowKit.intOf]; omega
    · have hi' : i = s.size := by omega
      have hVt : V = true := by
        rw [← h5]
        cases f with
        | zero => rfl
        | succ f => rw [valids, if_pos (by omega)]
      have hacc : acc = M := by
        rw [Lib.runeCountFrom_end s f i hlt] at h4
        omega
      subst hacc
      obtain ⟨A, c, rfl, ha1, ha2⟩ := own_slice hown
      have hP := post_true hVt A c
      have hge : (s.size : Int) ≤ i := by omega
      clear post_true post_false h4 h5 hi' hVt hown HV HM
      go_wp2
      go_ret2
      exact ⟨hP, hb⟩
theorem refcheck_any (s : ByteArray) (w : World) (hs : s.size ≤ 17000) :
    Calls Tryd.prog 20 #[.string s] w fun e w' => e = .returned (.int .i64 (checkV s)) ∧ Below w.heap.size w w' := by
  by_cases h : (16384 : Int) < s.size
  · have e1 : checkV s = 4 := by unfold checkV; rw [if_pos (by omega)]
    rw [e1]
    go_enter Tryd.func20, Tryd.ntmps20
    go_wp2
    go_ret
    exact ⟨rfl, Below.refl _ _⟩
  · have hc := points_any s w hs
    go_enter Tryd.func20, Tryd.ntmps20
    go_wp2_with fail
    refine hc.mono ?_
    rintro e w1 ⟨⟨hv, A, c, rfl⟩ | ⟨hv, rfl⟩, hb1⟩
    · have e1 : checkV s = 0 := by unfold checkV; rw [if_neg (by omega), if_pos hv]
      clear hv hc
      go_wp2
      go_ret
      exact ⟨by rw [e1]; rfl, hb1⟩
    · have e1 : checkV s = 10 := by unfold checkV; rw [if_neg (by omega), if_neg (by rw [hv]; simp)]
      clear hv hc
      go_wp2
      go_ret
      exact ⟨by rw [e1]; rfl, hb1⟩
theorem refcount_any (s : ByteArray) (w : World) (hs : s.size ≤ 17000) :
    Calls Tryd.prog 18 #[.string s] w fun e w' => e = .returned (.tuple #[.int .i64 (countV s), .int .i64 (checkV s)]) ∧ Below w.heap.size w w' := by
  have hc := refcheck_any s w hs
  by_cases h : checkV s = 0
  · have e1 : countV s = Lib.runeCount s := by unfold countV; rw [if_pos h]
    have hv : Lib.validD s.data.toList = true := by
      unfold checkV at h
      split at h
      · cases h
      · by_cases g : Lib.validD s.data.toList = true
        · exact g
        · rw [if_neg g] at h; cases h
    have hp := fun W => points_any s W hs
    rw [e1, h]
    rw [h] at hc
    obtain ⟨M, hM⟩ : ∃ M, Lib.runeCount s = M := ⟨_, rfl⟩
    unfold PtsPost at hp
    rw [hM, hv] at hp
    rw [hM]
    clear e1 h hv hM
    go_enter Tryd.func18, Tryd.ntmps18
    go_wp2_with fail
    refine hc.mono ?_
    rintro e w1 ⟨rfl, hb1⟩
    go_wp2_with fail
    refine (hp _).mono ?_
    rintro e w2 ⟨⟨_, A, c, rfl⟩ | ⟨h, _⟩, hb2⟩
    · clear hp hc
      go_wp2
      go_ret2
      exact ⟨rfl, hb1.trans (hb2.mono hb1.size)⟩
    · cases h
  · have e1 : countV s = 0 := by unfold countV; rw [if_neg h]
    obtain ⟨k, hk⟩ : ∃ k, checkV s = k := ⟨_, rfl⟩
    rw [e1, hk]
    rw [hk] at hc h
    have h2 : ((k : Int) == 0) = false := by rw [beq_eq_false_iff_ne]; omega
    have h3 : ((k : Int) != 0) = true := by rw [bne, h2]; rfl
    clear e1 hk
    go_enter Tryd.func18, Tryd.ntmps18
    go_wp2_with fail
    refine hc.mono ?_
    rintro e w1 ⟨rfl, hb1⟩
    go_wp2
    go_ret2
    exact ⟨rfl, hb1⟩
end Go.Proofs.YtllfgkfcbicnlaaDoor
