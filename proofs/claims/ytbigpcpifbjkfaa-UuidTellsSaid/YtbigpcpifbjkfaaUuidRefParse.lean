/- The reference's Parse. Conditions: none but that the text is one. -/
import Derived.Test.YtbigpcpifbjkfaaUuidParsed
import Derived.Lib.Hide
namespace Go.Proofs.Ytbigpcpifbjkfaa
open Go.RowKit Go.ChangeShapes Go.WideShapes Go.ChangeAt
theorem ch_at (s : ByteArray) (i : Nat) (h : i < s.size) : (((s[i]'h).toNat : Nat) : Int) = ch s i := by rw [ch, dif_pos h]
theorem ch_rng (s : ByteArray) (i : Nat) : 0 ≤ ch s i ∧ ch s i < 256 := by
  unfold ch
  split
  · have := UInt8.toNat_lt (s[i]'(by assumption))
    omega
  · omega
theorem bad_all (s : ByteArray) (i : Nat) (h : i < 36) (hb : okAt s i = false) : okAll s = false :=
  List.all_eq_false.2 ⟨i, by simpa using h, by simp [hb]⟩
def part (s : ByteArray) (k : Nat) : List Int := (dec s).take k ++ List.replicate (16 - k) 0
theorem dec_len (s : ByteArray) : (dec s).length = 16 := by simp [dec]
theorem part_len (s : ByteArray) (k : Nat) (h : k ≤ 16) : (part s k).length = 16 := by
  simp [part, dec_len]
  omega
theorem av_set (xs : List Int) (k : Nat) (v : Int) : (av xs).setIfInBounds k (.int .u8 v) = av (xs.set k v) := by
  simp [av, List.map_set]
theorem part_step (s : ByteArray) (k : Nat) (h : k < 16) : (av (part s k)).setIfInBounds k (.int .u8 (16 * dig (ch s (pos k)) + dig (ch s (pos k + 1)))) = av (part s (k + 1)) := by
  have hl : ((dec s).take k).length = k := by rw [List.length_take, dec_len]; omega
  have hd : (dec s)[k]? = some (16 * dig (ch s (pos k)) + dig (ch s (pos k + 1))) := by simp [dec, h]
  rw [av_set, part, part, List.take_add_one, hd, show 16 - k = (16 - (k + 1)) + 1 by omega, List.replicate_succ, List.set_append_right _ _ (by omega), hl, Nat.sub_self]
  simp
set_option maxHeartbeats 4000000 in
theorem refparse_any (s : ByteArray) (w : World) (hs : s.size ≤ maxLen) :
    Calls Try.prog 13 #[.string s] w fun e w' => e = .returned (.tuple #[.agg (av (parsed s).1), .int .i64 (parsed s).2]) ∧ Below w.heap.size w w' := by
  have hz16 := fold0
  have hsz0 : (av zero16).size = 16 := rfl
  go_enter Try.func13, Try.ntmps13
  by_cases h : (s.size : Int) = 36
  · have h36 : s.size = 36 := by omega
    obtain ⟨hz, hb0, c2, c4⟩ := two_boxes w zero16 zero16 22
    go_wp2
    go_loopw [5, 6] (fun a i wr => ∃ k : Nat, k ≤ 16 ∧ i = .int .i64 k ∧ a = .int .i64 (pos k) ∧ (∀ j, j < pos k → okAt s j = true) ∧ wr.heap[w.heap.size]? = some (.cells (av zero16) 22) ∧ wr.heap[w.heap.size + 1]? = some (.cells (av (part s k)) 22) ∧ Below w.heap.size w wr) (fun _ i _ => 16 - (intOf i).toNat)
    case atStart => exact ⟨0, by omega, rfl, rfl, by simp [pos], c2, c4, hb0⟩
    case round =>
      clear c2 c4 hb0 hz
      obtain ⟨k, hk, rfl, rfl, hok, c2, c4, hb⟩ := hrel
      by_cases hlt : k < 16
      · obtain ⟨p1, p2, p3, p4, p5, p6⟩ := pos_facts k hlt
        have e1 := ch_at s (pos k) (by omega)
        have e2 := ch_at s (pos k + 1) (by omega)
        have r1 := ch_rng s (pos k)
        have r2 := ch_rng s (pos k + 1)
        have hst := part_step s k hlt
        have o1 : okAt s (pos k) = decide (0 ≤ dig (ch s (pos k))) := by rw [okAt, p1]; rfl
        have o2 : okAt s (pos k + 1) = decide (0 ≤ dig (ch s (pos k + 1))) := by rw [okAt, p2]; rfl
        obtain ⟨x1, hx1⟩ : ∃ x, ch s (pos k) = x := ⟨_, rfl⟩
        obtain ⟨x2, hx2⟩ : ∃ x, ch s (pos k + 1) = x := ⟨_, rfl⟩
        rw [hx1] at e1 r1 hst o1
        rw [hx2] at e2 r2 hst o2
        have hpk : pos k + 1 < 36 := by omega
        have e3 : brk k = true → ∀ W : World, (Instr.index 9 (.string s) (.int .i64 ((pos k : Int) + 2))).run Try.prog W = .ok (.int .u8 (ch s (pos k + 2))) W := by
          intro hbk W
          rw [hbk] at p6
          simp only [if_true] at p6
          rw [run_index_string W 9 s .i64 ((pos k : Int) + 2) Try.underlying9, dif_pos (by constructor <;> omega)]
          simp [show ((pos k : Int) + 2).toNat = pos k + 2 by omega, ← ch_at s (pos k + 2) (by omega)]
        have hi1 : ∀ W : World, (Instr.index 9 (.string s) (.int .i64 (pos k))).run Try.prog W = .ok (.int .u8 x1) W := by
          intro W
          rw [run_index_string W 9 s .i64 (pos k) Try.underlying9, dif_pos (by constructor <;> omega)]
          simp [e1]
        have hi2 : ∀ W : World, (Instr.index 9 (.string s) (.int .i64 ((pos k : Int) + 1))).run Try.prog W = .ok (.int .u8 x2) W := by
          intro W
          rw [run_index_string W 9 s .i64 ((pos k : Int) + 1) Try.underlying9, dif_pos (by constructor <;> omega)]
          simp [show ((pos k : Int) + 1).toNat = pos k + 1 by omega, e2]
        have hw : IntKind.i64.wrap ((pos k : Int) + 1) = (pos k : Int) + 1 := by rw [IntKind.wrap_i64]; omega
        have f1 : (pos k : Int) + 1 < 36 := by omega
        have f4 : (pos k : Int) < 36 := by omega
        clear hx1 hx2 e1 e2
        have d1r := dig_lt x1
        have d2r := dig_lt x2
        have HH := Lib.hid (And.intro o1 (And.intro o2 (And.intro hst (And.intro c2 (And.intro c4 (And.intro p6 (And.intro hok e3)))))))
        clear o1 o2 hst c2 c4 p1 p2 p3 p4 p5 p6 hok hz16 hsz0 e3
        go_wp2
        go_region_held3 (fun _ => True) (exact trivial) (first | (go_at_call 20; (with_reducible refine (digit_any x1 r1 _).mono ?_); rintro e w3 ⟨rfl, rfl⟩) | (go_at_call 20; (with_reducible refine (digit_any x2 r2 _).mono ?_); rintro e w4 ⟨rfl, rfl⟩))
        all_goals obtain ⟨o1, o2, hst, c2, c4, p6, hok, e3⟩ := HH.out
        all_goals clear HH hi1 hi2
        all_goals replace c2 : wr.drew.heap[w.heap.size]? = some (.cells (av zero16) 22) := c2
        all_goals replace c4 : wr.drew.heap[w.heap.size + 1]? = some (.cells (av (part s k)) 22) := c4
        all_goals replace hb := hb.drew
        all_goals obtain ⟨w5, hw5⟩ : ∃ w5, wr.drew = w5 := ⟨_, rfl⟩
        all_goals rw [hw5] at c2 c4 hb ⊢
        all_goals clear hw5
        all_goals
          by_cases d1 : dig x1 < 0
          · have hall := bad_all s (pos k) (by omega) (by rw [o1]; simpa using d1)
            have hp : parsed s = (zero16, 130) := by rw [parsed, if_neg (by simp [hall])]
            have hl0 : zero16.length = 16 := rfl
            have hb' := below_setRow hb (Nat.le_refl w.heap.size) (av zero16)
            have c5 := row16 (ys := zero16) c2
            go_wp2_with (first | (refine wpList_store16 rfl _ _ rfl w.heap.size zero16 zero16 22 rfl rfl c2 hl0 hl0 ?_))
            exact bodyPost_ret (res16 Try.results13 _ _ _ _ _ (.int .i64 130) rfl rfl c5 hl0) rfl ⟨by first | (rw [hp]) | rfl, hb'⟩
          · by_cases d2 : dig x2 < 0
            · have hall := bad_all s (pos k + 1) hpk (by rw [o2]; simpa using d2)
              have hp : parsed s = (zero16, 130) := by rw [parsed, if_neg (by simp [hall])]
              have hl0 : zero16.length = 16 := rfl
              have hb' := below_setRow hb (Nat.le_refl w.heap.size) (av zero16)
              have c5 := row16 (ys := zero16) c2
              go_wp2_with (first | (refine wpList_store16 rfl _ _ rfl w.heap.size zero16 zero16 22 rfl rfl c2 hl0 hl0 ?_))
              exact bodyPost_ret (res16 Try.results13 _ _ _ _ _ (.int .i64 130) rfl rfl c5 hl0) rfl ⟨by first | (rw [hp]) | rfl, hb'⟩
            · obtain ⟨v, hv⟩ : ∃ v, 16 * dig x1 + dig x2 = v := ⟨_, rfl⟩
              have hcell := av_cell c4 k (by rw [part_len s k (by omega)]; exact hlt)
              rw [hv] at hst
              have hfz : w5.frozen? ⟨w.heap.size + 1, k, none⟩ = false := by simp [World.frozen?, c4]
              have g1 : 0 ≤ v ∧ v < 256 := by omega
              have g4 : (w5.setCell ⟨w.heap.size + 1, k, none⟩ (.int .u8 v)).heap[w.heap.size + 1]? = some (.cells (av (part s (k + 1))) 22) := by
                simp [World.setCell, Array.getElem?_modify, c4, hst]
              have g2 : (w5.setCell ⟨w.heap.size + 1, k, none⟩ (.int .u8 v)).heap[w.heap.size]? = some (.cells (av zero16) 22) := by
                simp [World.setCell, Array.getElem?_modify, c2]
              have g0 : Below w.heap.size w (w5.setCell ⟨w.heap.size + 1, k, none⟩ (.int .u8 v)) := hb.setCell (by simp) _
              have hok2 : ∀ j, j < pos k + 2 → okAt s j = true := by
                intro j hj
                by_cases q : j < pos k
                · exact hok j q
                · rcases (show j = pos k ∨ j = pos k + 1 by omega) with rfl | rfl
                  · rw [o1]; simpa using d1
                  · rw [o2]; simpa using d2
              by_cases hbk : brk k = true
              · rw [hbk] at p6
                simp only [if_true] at p6
                have hi3 := e3 hbk
                have hk4 : k = 3 ∨ k = 5 ∨ k = 7 ∨ k = 9 := by simpa [brk, or_assoc] using hbk
                have o3 : okAt s (pos k + 2) = decide (ch s (pos k + 2) = 45) := by rw [okAt, p6.1]; rfl
                obtain ⟨x3, hx3⟩ : ∃ x, ch s (pos k + 2) = x := ⟨_, rfl⟩
                rw [hx3] at hi3 o3
                clear hx3 e3 o1 o2 hst c2 c4 hok
                by_cases hd : x3 = 45
                · have hok3 : ∀ j, j < pos (k + 1) → okAt s j = true := by
                    intro j hj
                    by_cases q : j < pos k + 2
                    · exact hok2 j q
                    · obtain rfl : j = pos k + 2 := by omega
                      rw [o3]
                      simpa using hd
                  have hp3 : (pos (k + 1) : Int) = pos k + 3 := by omega
                  subst hd
                  clear o3 hok2 hbk
                  rcases hk4 with rfl | rfl | rfl | rfl
                  all_goals go_wp2
                  all_goals refine ⟨⟨_, hlt, rfl, by rw [hp3, Int.add_assoc]; rfl, hok3, g2, g4, g0⟩, by simp [intOf]⟩
                · have hall := bad_all s (pos k + 2) (by omega) (by rw [o3]; simpa using hd)
                  clear o3 hok2 hbk p6
                  rcases hk4 with rfl | rfl | rfl | rfl
                  all_goals
                    have hp : parsed s = (zero16, 130) := by rw [parsed, if_neg (by simp [hall])]
                    have hl0 : zero16.length = 16 := rfl
                    have hb' := below_setRow g0 (Nat.le_refl w.heap.size) (av zero16)
                    have c5 := row16 (ys := zero16) g2
                    go_wp2_with (first | (refine wpList_store16 rfl _ _ rfl w.heap.size zero16 zero16 22 rfl rfl g2 hl0 hl0 ?_))
                    exact bodyPost_ret (res16 Try.results13 _ _ _ _ _ (.int .i64 130) rfl rfl c5 hl0) rfl ⟨by first | (rw [hp]) | rfl, hb'⟩
              · have hok3 : ∀ j, j < pos (k + 1) → okAt s j = true := by
                  intro j hj
                  rw [if_neg hbk] at p6
                  exact hok2 j (by omega)
                have hp3 : (pos (k + 1) : Int) = pos k + 2 := by rw [if_neg hbk] at p6; omega
                have n1 : ((k : Int) == 3) = false := by rw [beq_eq_false_iff_ne]; intro h; exact hbk (by rw [show k = 3 by omega]; rfl)
                have n2 : ((k : Int) == 5) = false := by rw [beq_eq_false_iff_ne]; intro h; exact hbk (by rw [show k = 5 by omega]; rfl)
                have n3 : ((k : Int) == 7) = false := by rw [beq_eq_false_iff_ne]; intro h; exact hbk (by rw [show k = 7 by omega]; rfl)
                have n4 : ((k : Int) == 9) = false := by rw [beq_eq_false_iff_ne]; intro h; exact hbk (by rw [show k = 9 by omega]; rfl)
                clear o1 o2 hst c2 c4 hok e3 hok2 p6
                go_wp2
                refine ⟨⟨k + 1, hlt, by go_num, by rw [hp3], hok3, g2, g4, g0⟩, by simp [intOf]; omega⟩
      · obtain rfl : k = 16 := by omega
        have hall : okAll s = true := List.all_eq_true.2 fun j hj => hok j (by have : j < 36 := (by simpa using hj); exact this)
        have hp : parsed s = (dec s, 0) := by rw [parsed, if_pos ⟨h36, hall⟩]
        have hd : part s 16 = dec s := by simp [part, List.take_of_length_le (Nat.le_of_eq (dec_len s))]
        rw [hd] at c4
        have hl := dec_len s
        have hl0 : zero16.length = 16 := rfl
        have hb' := below_setRow hb (Nat.le_refl _) (av (dec s))
        have c5 := row16 (ys := dec s) c2
        go_wp2_with (first | (refine wpList_load16 rfl _ rfl (w.heap.size + 1) (dec s) 22 rfl c4 hl ?_) | (refine wpList_store16 rfl _ _ rfl w.heap.size zero16 (dec s) 22 rfl rfl c2 hl0 hl ?_))
        exact bodyPost_ret (res16 Try.results13 _ _ _ _ _ (.int .i64 0) rfl rfl c5 hl) rfl ⟨by first | (rw [hp]) | rfl, hb'⟩
  · have hp : parsed s = (zero16, 130) := by rw [parsed, if_neg (by omega)]
    rw [hp]
    obtain ⟨hz, hb0, c2, c4⟩ := two_boxes w zero16 zero16 22
    have hl0 : zero16.length = 16 := rfl
    have hb' := below_setRow hb0 (Nat.le_refl _) (av zero16)
    have c5 := row16 (ys := zero16) c2
    go_wp2_with (first | (refine wpList_load16 rfl _ rfl (w.heap.size + 1) zero16 22 rfl c4 hl0 ?_) | (refine wpList_store16 rfl _ _ rfl w.heap.size zero16 zero16 22 rfl rfl c2 hl0 hl0 ?_))
    exact bodyPost_ret (res16 Try.results13 _ _ _ _ _ (.int .i64 130) rfl rfl c5 hl0) rfl ⟨rfl, hb'⟩
end Go.Proofs.Ytbigpcpifbjkfaa
