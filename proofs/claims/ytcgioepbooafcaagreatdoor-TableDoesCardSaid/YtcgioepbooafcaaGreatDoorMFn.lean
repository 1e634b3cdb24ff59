/- Contracts of text.Check. Conditions: Go's two tables of utf8. The reference's Points, Check, Count. Conditions: at most 2,000,000 bytes. provostref03.text, among. Conditions: at most 2,000,000 bytes (text); lengths within the model's. provostref03.Name, text, among. Conditions: lengths within the model's; at most 2,000,000 bytes (text). provostref03.One. Conditions: a cell's numbers within their kinds; texts of at most 2,000,000 bytes. provostref03.Behind at a place where nothing stands in the value: what it answers. Conditions: cells whose texts are of at most 2,000,000 bytes. Whether two are the same (program's, reference's); the reference's Great and Twin. Conditions: lengths within the model's. cell.name: what it answers. Conditions: lengths within the model's. What a kind's cells may have: none, zero, the closures of cell.kinds. Conditions: Go's two tables of utf8 (texts). What the closure of cell.behind finds in memory, and what it leaves. Conditions: none. The reference's Great and Twin, cell.Twin; what spoil leaves. Conditions: lengths within the model's. cell.behind's closure at a cell in which nothing stands, and where none may: what it answers, what it leaves: what stands ahead. Conditions: lengths within the model's; Go's two tables of utf8. -/
import Derived.Test.YtcgioepbooafcaaGreatDoorMBase
import Derived.Test.YtcgioepbooafcaaGreatDoorShelf
import Derived.Laws.StructEq
import Derived.Shelf.SlicesE.Kit
import Derived.Deep.QuietTactic
import Derived.BigQuiet
import Derived.Lib.OthersKept
import Derived.Laws.ResultCell
import Derived.Deep.MidRow
import Derived.Maps.OwnOps
import Derived.Maps.Views
import Derived.Test.YtcgioepbooafcaaGreatDoorShelf2
import Derived.Laws.EntriesVeiled
namespace Go.Proofs.YtcgioepbooafcaaGreatDoor
section
open Go.RowKit Go.Lib
def checkV (s : ByteArray) : Nat := if 16384 < s.size then 4 else if Lib.validD s.data.toList = true then 0 else 10
theorem check_any (s : ByteArray) (w : World) (hs : s.size ≤ maxLen) (hT : Tabs w) :
    Calls Tryz.prog 83 #[.string s] w fun e w' => e = .returned (.int .i64 (checkV s)) ∧ Below w.heap.size w w' := by
  unfold maxLen at hs
  by_cases h : (16384 : Int) < s.size
  · have e1 : checkV s = 4 := by unfold checkV; rw [if_pos (by omega)]
    rw [e1]
    go_enter Tryz.func83, Tryz.ntmps83
    go_wp2
    go_ret
    exact ⟨rfl, Below.refl _ _⟩
  · have hc := Tryz.utf8_ValidString s w (by omega) hT
    cases hv : Lib.validD s.data.toList with
    | true =>
      have e1 : checkV s = 0 := by unfold checkV; rw [if_neg (by omega), if_pos hv]
      rw [e1]
      rw [hv] at hc
      clear e1 hv
      go_enter Tryz.func83, Tryz.ntmps83
      go_wp2_with fail
      refine hc.mono ?_
      rintro e w1 ⟨rfl, hb1⟩
      go_wp2
      go_ret
      exact ⟨rfl, hb1⟩
    | false =>
      have e1 : checkV s = 10 := by unfold checkV; rw [if_neg (by omega), if_neg (by rw [hv]; simp)]
      rw [e1]
      rw [hv] at hc
      clear e1 hv
      go_enter Tryz.func83, Tryz.ntmps83
      go_wp2_with fail
      refine hc.mono ?_
      rintro e w1 ⟨rfl, hb1⟩
      go_wp2
      go_ret
      exact ⟨rfl, hb1⟩
end
section
open Go.RowKit Go.Lib
theorem info_int : (Tryz.prog.info? 3).map (fun i => (i.zero, i.size, i.bytes)) = some (some (.int .i64 0), 1, 8) := by kernel_rfl
theorem dec_err (B : Nat → Nat) (n i : Nat) (h : (dec B n i).1 = 65533) : (dec B n i).2 ≠ 2 := by
  have key : (dec B n i).2 ≠ 2 ∨ (dec B n i).1 ≤ 2047 := by
    unfold dec decodeN
    repeat' split
    all_goals (try simp only)
    all_goals omega
  omega
theorem next_dec {s : ByteArray} {i : Nat} (hi : i < s.size) :
    (((dec (byt s) s.size i).1 = 65533 ∧ (dec (byt s) s.size i).2 = 1) ∧ nextV s (i : Int) = (0, 0, 10)) ∨
    (¬ ((dec (byt s) s.size i).1 = 65533 ∧ (dec (byt s) s.size i).2 = 1) ∧ nextV s (i : Int) = ((dec (byt s) s.size i).1, (dec (byt s) s.size i).2, 0) ∧ At (byt s) s.size i (dec (byt s) s.size i).1 (dec (byt s) s.size i).2) := by
  have h1 := dec_err (byt s) s.size i
  have h2 := dec_bd (byt s) (byt_lt s) s.size i
  have e : nextV s (i : Int) = told (dec (byt s) s.size i) := by
    unfold nextV
    rw [if_neg (by omega), show (i : Int).toNat = i by omega]
  rw [e]
  unfold told
  by_cases g : (dec (byt s) s.size i).1 = 65533 ∧ (dec (byt s) s.size i).2 < 3
  · left
    rw [if_pos g]
    exact ⟨⟨g.1, by have := h1 g.1; omega⟩, rfl⟩
  · right
    rw [if_neg g]
    exact ⟨fun h => g ⟨h.1, by omega⟩, rfl, at_of_dec (byt_lt s) hi g⟩
def PtsPost (s : ByteArray) (e : Ending) : Prop :=
  (Lib.validD s.data.toList = true ∧ ∃ A c, e = .returned (.tuple #[.slice A (Lib.runeCount s) c, .bool true])) ∨ (Lib.validD s.data.toList = false ∧ e = .returned (.tuple #[.slice none 0 0, .bool false]))
set_option maxHeartbeats 2000000 in
theorem points_any (s : ByteArray) (w : World) (hs : s.size ≤ 2000000) :
    Calls Tryz.prog 98 #[.string s] w fun e w' => PtsPost s e ∧ Below w.heap.size w w' := by
  obtain ⟨i0, hi, hz0, hz1, hz2⟩ := info_parts info_int
  obtain ⟨V, hV⟩ : ∃ V, Lib.validD s.data.toList = V := ⟨_, rfl⟩
  obtain ⟨M, hM⟩ : ∃ M, Lib.runeCount s = M := ⟨_, rfl⟩
  have post_true : V = true → ∀ A c, PtsPost s (.returned (.tuple #[.slice A M c, .bool true])) := fun h A c => .inl ⟨by rw [hV, h], A, c, by rw [hM]⟩
  have post_false : V = false → PtsPost s (.returned (.tuple #[.slice none 0 0, .bool false])) := fun h => .inr ⟨by rw [hV, h], rfl⟩
  have HV := Lib.hid hV
  have HM := Lib.hid hM
  have hsI : (s.size : Int) ≤ 2000000 := by omega
  clear hV hM
  go_enter Tryz.func98, Tryz.ntmps98
  go_wp2
  go_loopw [4, 5] (fun v a wr => ∃ (i f acc : Nat) (xs : List Value), a = .int .i64 i ∧ i ≤ s.size ∧ s.size ≤ i + f ∧ acc ≤ i ∧ acc + Lib.runeCountFrom s f i = M ∧ valids (byt s) s.size f i = V ∧ wr.ownsRow w.heap.size 3 1 v acc xs ∧ Below w.heap.size w wr) (fun _ a _ => s.size - (RowKit.intOf a).toNat)
  case atStart =>
    refine ⟨0, s.size, 0, [], rfl, by omega, by omega, by omega, ?_, ?_, World.ownsRow_nil _ _ _ _, Below.refl _ _⟩
    · rw [← HM.out, Nat.zero_add]; rfl
    · rw [← HV.out, validD_dec]
  case round =>
    obtain ⟨i, f, acc, xs, rfl, h1, h2, h3, h4, h5, hown, hb⟩ := hrel
    by_cases hlt : i < s.size
    · obtain ⟨f, rfl⟩ : ∃ g, f = g + 1 := ⟨f - 1, by omega⟩
      have hn := refnext_any s i wr hs
      rcases next_dec hlt with ⟨g1, g2⟩ | ⟨g1, g2, g3⟩
      · have hVf : V = false := by rw [← h5, valids, if_neg (by omega), if_pos g1]
        have hP := post_false hVf
        rw [g2] at hn
        clear post_true post_false h4 h5 g1 g2 hVf
        go_wp2_with fail
        refine hn.mono ?_
        rintro e w2 ⟨rfl, hb2⟩
        go_wp2
        go_ret2
        exact ⟨hP, hb.trans (hb2.mono hb.size)⟩
      · have g4 := g3.end_le
        have h5' : valids (byt s) s.size f (i + (dec (byt s) s.size i).2) = V := by rw [← h5, valids, if_neg (by omega), if_neg g1]
        have h4' : (acc + 1) + Lib.runeCountFrom s f (i + (dec (byt s) s.size i).2) = M := by
          rw [← h4, Lib.runeCountFrom, if_pos hlt, decode_dec]
          omega
        rw [g2] at hn
        obtain ⟨⟨p, k⟩, hpk⟩ : ∃ d, dec (byt s) s.size i = d := ⟨_, rfl⟩
        rw [hpk] at hn h5' h4' g4
        simp only at g4
        have H4 := Lib.hid h4'
        have H5 := Lib.hid h5'
        clear post_true post_false h4 h5 g1 g2 g3 hpk h4' h5'
        go_wp2_with fail
        refine hn.mono ?_
        rintro e w2 ⟨rfl, hb2⟩
        have hown2 := own_below hown hb2 (own_lt hown)
        have hB2 := hb.trans (hb2.mono hb.size)
        have hbs := hB2.size
        clear hn hown hb2
        obtain ⟨A, c, rfl, ha1, ha2⟩ := own_slice hown2
        go_wp2_with (first | (at_builtin; refine wpList_append_rd _ (by rfl) _ _ _ (by rfl) w.heap.size 3 i0 (.int .i64 0) 8 Tryz.underlying93 hi hz0 hz1 hz2 (by rfl) (.slice A acc c) acc xs (by rfl) (hown2.alloc _) (B := w2.heap.size + 1) (some ⟨w2.heap.size, 0, none⟩) 1 1 [.int .i64 p] (by rfl) (rd_new w2 #[.int .i64 p] 3 [.int .i64 p] rfl) rfl (by simp [Value.oneCell']) (by unfold maxLen; omega) (by omega) (by simp; omega) ?_; intro v5 w3 hown3 hgrow hrow; have hB3 : Below w.heap.size w w3 := Below.grown (hB2.alloc (by omega) _) hgrow (by simp; omega) hrow))
        go_roundw
        case rel => exact ⟨i + k, f, acc + 1, xs ++ [.int .i64 p], by go_num, by omega, by omega, by omega, H4.out, H5.out, hown3, hB3⟩
        case measure => simp [RowKit.intOf]; omega
    · have hi' : i = s.size := by omega
      have hVt : V = true := by
        rw [← h5]
        cases f with
        | zero => rfl
        | succ f => rw [valids, if_pos (by omega)]
      have hacc : acc = M := by
        rw [Lib.runeCountFrom_end s f i hlt] at h4
        omega
      subst hacc
      obtain ⟨A, c, rfl, ha1, ha2⟩ := own_slice hown
      have hP := post_true hVt A c
      have hge : (s.size : Int) ≤ i := by omega
      clear post_true post_false h4 h5 hi' hVt hown HV HM
      go_wp2
      go_ret2
      exact ⟨hP, hb⟩
end
section
open Go.RowKit
theorem text_ref (s : ByteArray) (w : World) (hs : s.size ≤ 2000000) : Calls Tryz.prog 88 #[.string s] w fun e w' => e = .returned (.bool (textOk s)) ∧ Below w.heap.size w w' := by
  have hp := points_any s w hs
  obtain ⟨V, hV⟩ : ∃ V, textOk s = V := ⟨_, rfl⟩
  have HV := Lib.hid hV
  rw [hV]
  clear hV
  by_cases hle : s.size ≤ 16384
  · have hI : (s.size : Int) ≤ 16384 := by omega
    go_enter Tryz.func88, Tryz.ntmps88
    go_wp2_with fail
    refine hp.mono ?_
    rintro e w1 ⟨hP, hb⟩
    rcases hP with ⟨h, A, c, rfl⟩ | ⟨h, rfl⟩
    · have hv : V = true := by rw [← HV.out, textOk, h]; simp [hle]
      subst hv
      clear HV h
      go_wp2
      go_ret
      exact ⟨rfl, hb⟩
    · have hv : V = false := by rw [← HV.out, textOk, h]; simp
      subst hv
      clear HV h
      go_wp2
      go_ret
      exact ⟨rfl, hb⟩
  · have hI : ¬ (s.size : Int) ≤ 16384 := by omega
    have hv : V = false := by rw [← HV.out, textOk]; simp [hle]
    subst hv
    clear HV
    go_enter Tryz.func88, Tryz.ntmps88
    go_wp2_with fail
    refine hp.mono ?_
    rintro e w1 ⟨hP, hb⟩
    rcases hP with ⟨h, A, c, rfl⟩ | ⟨h, rfl⟩
    · clear h
      go_wp2
      go_ret
      exact ⟨ret_bool (by simp; omega), hb⟩
    · clear h
      go_wp2
      go_ret
      exact ⟨rfl, hb⟩
def amongL (ns : List ByteArray) (s : ByteArray) : Bool := ns.any fun x => decide (x = s)
theorem among_drop {ns : List ByteArray} {s : ByteArray} {k : Nat} (h : k < ns.length) : amongL (ns.drop k) s = (decide (ns[k] = s) || amongL (ns.drop (k + 1)) s) := by
  unfold amongL
  rw [List.drop_eq_getElem_cons h, List.any_cons]
set_option maxHeartbeats 1000000 in
theorem among_ref (A : Option Addr) (c : Nat) (ns : List ByteArray) (s : ByteArray) (w : World) {B : Nat} (hx : Rd w B A (sv ns)) (hn : ns.length ≤ maxLen) :
    Calls Tryz.prog 89 #[.slice A ns.length c, .string s] w fun e w' => e = .returned (.bool (amongL ns s)) ∧ w' = w := by
  unfold maxLen at hn
  obtain ⟨V, hV⟩ : ∃ V, amongL ns s = V := ⟨_, rfl⟩
  have HV := Lib.hid hV
  rw [hV]
  clear hV
  go_enter Tryz.func89, Tryz.ntmps89
  go_wp2
  go_loopw [5] (fun i wr => ∃ k : Nat, k ≤ ns.length ∧ i = .int .i64 k ∧ amongL (ns.drop k) s = V ∧ wr = w) (fun i _ => ns.length - (intOf i).toNat)
  case atStart => exact ⟨0, Nat.zero_le _, rfl, by rw [List.drop_zero, HV.out], rfl⟩
  case round =>
    obtain ⟨k, hk, rfl, hd, rfl⟩ := hrel
    by_cases hlt : k < ns.length
    · rw [among_drop hlt] at hd
      obtain ⟨b, off, rfl, hb, hc⟩ := hx.str hlt
      have hck := hc k hlt
      obtain ⟨x, hxk⟩ : ∃ x, ns[k] = x := ⟨_, rfl⟩
      rw [hxk] at hd hck
      have hq := ba_beq x s
      clear hc hxk hx
      by_cases he : x = s
      · rw [decide_eq_true he] at hd hq
        rw [Bool.true_or] at hd
        subst hd
        clear HV he
        go_wp2
        go_ret
        exact ⟨rfl, rfl⟩
      · rw [decide_eq_false he] at hd hq
        rw [Bool.false_or] at hd
        have HD := Lib.hid hd
        clear hd he
        go_wp2
        go_roundw
        case rel => exact ⟨k + 1, hlt, by go_num, HD.out, trivial⟩
        case measure => simp [intOf]; omega
    · obtain rfl : k = ns.length := by omega
      rw [List.drop_of_length_le (Nat.le_refl _)] at hd
      have hv : V = false := by rw [← hd]; rfl
      subst hv
      clear hd HV
      go_wp2
      go_ret
      exact ⟨rfl, rfl⟩
end
section
open Go.RowKit
theorem name_drop {s : ByteArray} {k : Nat} (h : k < s.size) : nameFrom (s.data.toList.drop k) k = ((isLetter s[k] || isDigit s[k] && decide (0 < k)) && nameFrom (s.data.toList.drop (k + 1)) (k + 1)) := by
  have hl : k < s.data.toList.length := by rw [size_data]; exact h
  have e : s.data.toList[k] = s[k] := by
    simp [ByteArray.getElem_eq_getElem_data]
  rw [List.drop_eq_getElem_cons hl, e]
  rfl
set_option maxHeartbeats 4000000 in
theorem name_ref (s : ByteArray) (w : World) (hs : s.size ≤ maxLen) : Calls Tryz.prog 97 #[.string s] w fun e w' => e = .returned (.bool (nameOk s)) ∧ w' = w := by
  unfold maxLen at hs
  by_cases h0 : s.size = 0
  · have hV : nameOk s = false := by simp [nameOk, h0]
    rw [hV]
    go_enter Tryz.func97, Tryz.ntmps97
    go_wp2
    go_loopw [3] (fun i wr => i = .int .i64 0 ∧ wr = w) (fun i _ => 0)
    case atStart => exact ⟨rfl, rfl⟩
    case round =>
      obtain ⟨rfl, rfl⟩ := hrel
      go_wp2
      go_ret
      exact ⟨rfl, rfl⟩
  · obtain ⟨V, hV⟩ : ∃ V, nameFrom s.data.toList 0 = V := ⟨_, rfl⟩
    have hE : nameOk s = V := by rw [nameOk, hV]; simp; omega
    rw [hE]
    have HV := Lib.hid hV
    have hpos : (0 : Int) < s.size := by omega
    clear hV hE
    go_enter Tryz.func97, Tryz.ntmps97
    go_wp2
    go_loopw [3] (fun i wr => ∃ k : Nat, k ≤ s.size ∧ i = .int .i64 k ∧ nameFrom (s.data.toList.drop k) k = V ∧ wr = w) (fun i _ => s.size - (intOf i).toNat)
    case atStart => exact ⟨0, Nat.zero_le _, rfl, by rw [List.drop_zero, HV.out], rfl⟩
    case round =>
      obtain ⟨k, hk, rfl, hd, rfl⟩ := hrel
      by_cases hlt : k < s.size
      · rw [name_drop hlt] at hd
        unfold isLetter isDigit at hd
        obtain ⟨x, hx⟩ : ∃ x, s[k].toNat = x := ⟨_, rfl⟩
        rw [hx] at hd
        have hx2 : ((s[k].toNat : Nat) : Int) = (x : Int) := by rw [hx]
        have HX := Lib.hid hx
        clear hx
        have harm : (x < 48) ∨ (48 ≤ x ∧ x ≤ 57) ∨ (58 ≤ x ∧ x ≤ 64) ∨ (65 ≤ x ∧ x ≤ 90) ∨ (91 ≤ x ∧ x ≤ 94) ∨ (x = 95) ∨ (x = 96) ∨ (97 ≤ x ∧ x ≤ 122) ∨ (123 ≤ x) := by omega
        rcases harm with ha | ha | ha | ha | ha | ha | ha | ha | ha
        · have f0 : decide (97 ≤ x) = false := by simp; omega
          have f1 : decide (x ≤ 122) = true := by simp; omega
          have f2 : decide (65 ≤ x) = false := by simp; omega
          have f3 : decide (x ≤ 90) = true := by simp; omega
          have f4 : decide (48 ≤ x) = false := by simp; omega
          have f5 : decide (x ≤ 57) = true := by simp; omega
          have f6 : decide (x = 95) = false := by simp; omega
          have g0 : ¬ (97 ≤ (x : Int)) := by omega
          have g1 : ((x : Int) ≤ 122) := by omega
          have g2 : ¬ (65 ≤ (x : Int)) := by omega
          have g3 : ((x : Int) ≤ 90) := by omega
          have g4 : ¬ (48 ≤ (x : Int)) := by omega
          have g5 : ((x : Int) ≤ 57) := by omega
          have g6 : ((x : Int) == 95) = false := beq_eq_false_iff_ne.2 (by omega)
          simp only [f0, f1, f2, f3, f4, f5, f6, Bool.and_true, Bool.false_and, Bool.or_false] at hd
          clear f0 f1 f2 f3 f4 f5 f6 ha
          subst hd
          go_wp2
          go_ret
          exact ⟨rfl, rfl⟩
        · have f0 : decide (97 ≤ x) = false := by simp; omega
          have f1 : decide (x ≤ 122) = true := by simp; omega
          have f2 : decide (65 ≤ x) = false := by simp; omega
          have f3 : decide (x ≤ 90) = true := by simp; omega
          have f4 : decide (48 ≤ x) = true := by simp; omega
          have f5 : decide (x ≤ 57) = true := by simp; omega
          have f6 : decide (x = 95) = false := by simp; omega
          have g0 : ¬ (97 ≤ (x : Int)) := by omega
          have g1 : ((x : Int) ≤ 122) := by omega
          have g2 : ¬ (65 ≤ (x : Int)) := by omega
          have g3 : ((x : Int) ≤ 90) := by omega
          have g4 : (48 ≤ (x : Int)) := by omega
          have g5 : ((x : Int) ≤ 57) := by omega
          have g6 : ((x : Int) == 95) = false := beq_eq_false_iff_ne.2 (by omega)
          simp only [f0, f1, f2, f3, f4, f5, f6, Bool.and_true, Bool.true_and, Bool.or_false, Bool.false_or] at hd
          clear f0 f1 f2 f3 f4 f5 f6 ha
          by_cases hk0 : k = 0
          · subst hk0
            have hv : V = false := by rw [← hd]; rfl
            subst hv
            clear hd
            go_wp2
            go_ret
            exact ⟨rfl, rfl⟩
          · have hkp : decide (0 < k) = true := by simp; omega
            rw [hkp, Bool.true_and] at hd
            have hki : ((k : Int) == 0) = false := beq_eq_false_iff_ne.2 (by omega)
            go_wp2
            exact ⟨⟨k + 1, hlt, by go_num, hd, trivial⟩, by simp [intOf]; omega⟩
        · have f0 : decide (97 ≤ x) = false := by simp; omega
          have f1 : decide (x ≤ 122) = true := by simp; omega
          have f2 : decide (65 ≤ x) = false := by simp; omega
          have f3 : decide (x ≤ 90) = true := by simp; omega
          have f4 : decide (48 ≤ x) = true := by simp; omega
          have f5 : decide (x ≤ 57) = false := by simp; omega
          have f6 : decide (x = 95) = false := by simp; omega
          have g0 : ¬ (97 ≤ (x : Int)) := by omega
          have g1 : ((x : Int) ≤ 122) := by omega
          have g2 : ¬ (65 ≤ (x : Int)) := by omega
          have g3 : ((x : Int) ≤ 90) := by omega
          have g4 : (48 ≤ (x : Int)) := by omega
          have g5 : ¬ ((x : Int) ≤ 57) := by omega
          have g6 : ((x : Int) == 95) = false := beq_eq_false_iff_ne.2 (by omega)
          simp only [f0, f1, f2, f3, f4, f5, f6, Bool.and_true, Bool.and_false, Bool.false_and, Bool.or_false] at hd
          clear f0 f1 f2 f3 f4 f5 f6 ha
          subst hd
          go_wp2
          go_ret
          exact ⟨rfl, rfl⟩
        · have f0 : decide (97 ≤ x) = false := by simp; omega
          have f1 : decide (x ≤ 122) = true := by simp; omega
          have f2 : decide (65 ≤ x) = true := by simp; omega
          have f3 : decide (x ≤ 90) = true := by simp; omega
          have f4 : decide (48 ≤ x) = true := by simp; omega
          have f5 : decide (x ≤ 57) = false := by simp; omega
          have f6 : decide (x = 95) = false := by simp; omega
          have g0 : ¬ (97 ≤ (x : Int)) := by omega
          have g1 : ((x : Int) ≤ 122) := by omega
          have g2 : (65 ≤ (x : Int)) := by omega
          have g3 : ((x : Int) ≤ 90) := by omega
          have g4 : (48 ≤ (x : Int)) := by omega
          have g5 : ¬ ((x : Int) ≤ 57) := by omega
          have g6 : ((x : Int) == 95) = false := beq_eq_false_iff_ne.2 (by omega)
          simp only [f0, f1, f2, f3, f4, f5, f6, Bool.and_true, Bool.true_and, Bool.and_false, Bool.false_and, Bool.or_true, Bool.or_false] at hd
          clear f0 f1 f2 f3 f4 f5 f6 ha
          go_wp2
          exact ⟨⟨k + 1, hlt, by go_num, hd, trivial⟩, by simp [intOf]; omega⟩
        · have f0 : decide (97 ≤ x) = false := by simp; omega
          have f1 : decide (x ≤ 122) = true := by simp; omega
          have f2 : decide (65 ≤ x) = true := by simp; omega
          have f3 : decide (x ≤ 90) = false := by simp; omega
          have f4 : decide (48 ≤ x) = true := by simp; omega
          have f5 : decide (x ≤ 57) = false := by simp; omega
          have f6 : decide (x = 95) = false := by simp; omega
          have g0 : ¬ (97 ≤ (x : Int)) := by omega
          have g1 : ((x : Int) ≤ 122) := by omega
          have g2 : (65 ≤ (x : Int)) := by omega
          have g3 : ¬ ((x : Int) ≤ 90) := by omega
          have g4 : (48 ≤ (x : Int)) := by omega
          have g5 : ¬ ((x : Int) ≤ 57) := by omega
          have g6 : ((x : Int) == 95) = false := beq_eq_false_iff_ne.2 (by omega)
          simp only [f0, f1, f2, f3, f4, f5, f6, Bool.and_true, Bool.and_false, Bool.false_and, Bool.or_false] at hd
          clear f0 f1 f2 f3 f4 f5 f6 ha
          subst hd
          go_wp2
          go_ret
          exact ⟨rfl, rfl⟩
        · have f0 : decide (97 ≤ x) = false := by simp; omega
          have f1 : decide (x ≤ 122) = true := by simp; omega
          have f2 : decide (65 ≤ x) = true := by simp; omega
          have f3 : decide (x ≤ 90) = false := by simp; omega
          have f4 : decide (48 ≤ x) = true := by simp; omega
          have f5 : decide (x ≤ 57) = false := by simp; omega
          have f6 : decide (x = 95) = true := by simp; omega
          have g0 : ¬ (97 ≤ (x : Int)) := by omega
          have g1 : ((x : Int) ≤ 122) := by omega
          have g2 : (65 ≤ (x : Int)) := by omega
          have g3 : ¬ ((x : Int) ≤ 90) := by omega
          have g4 : (48 ≤ (x : Int)) := by omega
          have g5 : ¬ ((x : Int) ≤ 57) := by omega
          have g6 : x = 95 := by omega
          simp only [f0, f1, f2, f3, f4, f5, f6, Bool.and_true, Bool.true_and, Bool.and_false, Bool.false_and, Bool.or_true, Bool.or_false] at hd
          clear f0 f1 f2 f3 f4 f5 f6 ha
          subst g6
          go_wp2
          exact ⟨⟨k + 1, hlt, by go_num, hd, trivial⟩, by simp [intOf]; omega⟩
        · have f0 : decide (97 ≤ x) = false := by simp; omega
          have f1 : decide (x ≤ 122) = true := by simp; omega
          have f2 : decide (65 ≤ x) = true := by simp; omega
          have f3 : decide (x ≤ 90) = false := by simp; omega
          have f4 : decide (48 ≤ x) = true := by simp; omega
          have f5 : decide (x ≤ 57) = false := by simp; omega
          have f6 : decide (x = 95) = false := by simp; omega
          have g0 : ¬ (97 ≤ (x : Int)) := by omega
          have g1 : ((x : Int) ≤ 122) := by omega
          have g2 : (65 ≤ (x : Int)) := by omega
          have g3 : ¬ ((x : Int) ≤ 90) := by omega
          have g4 : (48 ≤ (x : Int)) := by omega
          have g5 : ¬ ((x : Int) ≤ 57) := by omega
          have g6 : ((x : Int) == 95) = false := beq_eq_false_iff_ne.2 (by omega)
          simp only [f0, f1, f2, f3, f4, f5, f6, Bool.and_true, Bool.and_false, Bool.false_and, Bool.or_false] at hd
          clear f0 f1 f2 f3 f4 f5 f6 ha
          subst hd
          go_wp2
          go_ret
          exact ⟨rfl, rfl⟩
        · have f0 : decide (97 ≤ x) = true := by simp; omega
          have f1 : decide (x ≤ 122) = true := by simp; omega
          have f2 : decide (65 ≤ x) = true := by simp; omega
          have f3 : decide (x ≤ 90) = false := by simp; omega
          have f4 : decide (48 ≤ x) = true := by simp; omega
          have f5 : decide (x ≤ 57) = false := by simp; omega
          have f6 : decide (x = 95) = false := by simp; omega
          have g0 : (97 ≤ (x : Int)) := by omega
          have g1 : ((x : Int) ≤ 122) := by omega
          have g2 : (65 ≤ (x : Int)) := by omega
          have g3 : ¬ ((x : Int) ≤ 90) := by omega
          have g4 : (48 ≤ (x : Int)) := by omega
          have g5 : ¬ ((x : Int) ≤ 57) := by omega
          have g6 : ((x : Int) == 95) = false := beq_eq_false_iff_ne.2 (by omega)
          simp only [f0, f1, f2, f3, f4, f5, f6, Bool.and_true, Bool.true_and, Bool.and_false, Bool.false_and, Bool.or_false] at hd
          clear f0 f1 f2 f3 f4 f5 f6 ha
          go_wp2
          exact ⟨⟨k + 1, hlt, by go_num, hd, trivial⟩, by simp [intOf]; omega⟩
        · have f0 : decide (97 ≤ x) = true := by simp; omega
          have f1 : decide (x ≤ 122) = false := by simp; omega
          have f2 : decide (65 ≤ x) = true := by simp; omega
          have f3 : decide (x ≤ 90) = false := by simp; omega
          have f4 : decide (48 ≤ x) = true := by simp; omega
          have f5 : decide (x ≤ 57) = false := by simp; omega
          have f6 : decide (x = 95) = false := by simp; omega
          have g0 : (97 ≤ (x : Int)) := by omega
          have g1 : ¬ ((x : Int) ≤ 122) := by omega
          have g2 : (65 ≤ (x : Int)) := by omega
          have g3 : ¬ ((x : Int) ≤ 90) := by omega
          have g4 : (48 ≤ (x : Int)) := by omega
          have g5 : ¬ ((x : Int) ≤ 57) := by omega
          have g6 : ((x : Int) == 95) = false := beq_eq_false_iff_ne.2 (by omega)
          simp only [f0, f1, f2, f3, f4, f5, f6, Bool.and_false, Bool.false_and, Bool.or_false] at hd
          clear f0 f1 f2 f3 f4 f5 f6 ha
          subst hd
          go_wp2
          go_ret
          exact ⟨rfl, rfl⟩
      · obtain rfl : k = s.size := by omega
        rw [List.drop_of_length_le (by rw [size_data]; exact Nat.le_refl _)] at hd
        have hv : V = true := by rw [← hd]; rfl
        subst hv
        clear hd
        go_wp2
        go_ret
        exact ⟨ret_bool (by simp; omega), rfl⟩
end
section
open Go.RowKit
/-- a cell whose numbers are within their kinds, whose texts are of at most M bytes -/
structure CelW (M : Nat) (c : Cel) : Prop where
  kind : c.kind ≤ 255
  name : c.name.size ≤ M
  text : c.text.size ≤ M
  num0 : -9223372036854775808 ≤ c.num
  num1 : c.num ≤ 9223372036854775807
  many0 : -9223372036854775808 ≤ c.many
  many1 : c.many ≤ 9223372036854775807
theorem e0_nil (s : ByteArray) : (s = e0) ↔ s.toList = [] := by
  constructor
  · rintro rfl; rw [Lib.toList_data]; rfl
  · intro h; exact ba_ext (by rw [h, Lib.toList_data]; rfl)
theorem e0_isE (s : ByteArray) : decide (s = e0) = s.toList.isEmpty := by
  rw [Bool.eq_iff_iff]
  simp [e0_nil]
theorem beqD (a b : Int) : (a == b) = decide (a = b) := by
  rw [Bool.eq_iff_iff]
  simp
/-- five cells of a block that has just been laid, in a later world -/
theorem new5 (w w1 : World) (a b c d e : Value) (t : TypeId) (hb : Below (w.alloc (.cells #[a, b, c, d, e] t)).heap.size (w.alloc (.cells #[a, b, c, d, e] t)) w1) :
    w1.cell? ⟨w.heap.size, 0, none⟩ = some a ∧ w1.cell? ⟨w.heap.size, 1, none⟩ = some b ∧ w1.cell? ⟨w.heap.size, 2, none⟩ = some c ∧ w1.cell? ⟨w.heap.size, 3, none⟩ = some d ∧ w1.cell? ⟨w.heap.size, 4, none⟩ = some e := by
  have h : ∀ o, w1.cell? ⟨w.heap.size, o, none⟩ = (w.alloc (.cells #[a, b, c, d, e] t)).cell? ⟨w.heap.size, o, none⟩ := fun o => hb.cell (by simp)
  rw [h, h, h, h, h]
  refine ⟨?_, ?_, ?_, ?_, ?_⟩ <;> (simp only [World.cell?, heap_alloc_new]; rfl)
abbrev OneSays (k : Nat) : Prop := ∀ (nm tx : ByteArray) (num many : Int) (w : World), tx.size ≤ 2000000 → Calls Tryz.prog 87 #[.agg #[.int .u8 k, .string nm, .string tx, .int .i64 num, .int .i64 many]] w fun e w' => e = .returned (.bool (oneC ⟨k, nm, tx, num, many⟩)) ∧ Below w.heap.size w w'
theorem one_0 : OneSays 0 := by
  intro nm tx num many w _
  go_enter Tryz.func87, Tryz.ntmps87
  go_wp2
  all_goals (go_ret; exact ⟨ret_bool (by simp [oneC, e0_nil, beqD, *]), (Below.refl _ _).alloc (Nat.le_refl _) _⟩)
theorem one_1 : OneSays 1 := by
  intro nm tx num many w _
  go_enter Tryz.func87, Tryz.ntmps87
  go_wp2
  all_goals (go_ret; exact ⟨ret_bool (by simp [oneC, e0_nil, beqD, *]), (Below.refl _ _).alloc (Nat.le_refl _) _⟩)
theorem one_2 : OneSays 2 := by
  intro nm tx num many w _
  go_enter Tryz.func87, Tryz.ntmps87
  go_wp2
  all_goals (go_ret; exact ⟨ret_bool (by simp [oneC, e0_nil, beqD, *]), (Below.refl _ _).alloc (Nat.le_refl _) _⟩)
theorem one_6 : OneSays 6 := by
  intro nm tx num many w _
  go_enter Tryz.func87, Tryz.ntmps87
  go_wp2
  all_goals (go_ret; exact ⟨ret_bool (by simp [oneC, e0_nil, *]), (Below.refl _ _).alloc (Nat.le_refl _) _⟩)
theorem one_7 : OneSays 7 := by
  intro nm tx num many w _
  go_enter Tryz.func87, Tryz.ntmps87
  go_wp2
  all_goals (go_ret; exact ⟨ret_bool (by simp [oneC, e0_nil, *]), (Below.refl _ _).alloc (Nat.le_refl _) _⟩)
theorem one_3 : OneSays 3 := by
  intro nm tx num many w hx
  have hm : tx.size ≤ maxLen := by unfold maxLen; omega
  obtain ⟨V, hV⟩ : ∃ V, textOk tx = V := ⟨_, rfl⟩
  have HV := Lib.hid hV
  go_enter Tryz.func87, Tryz.ntmps87
  go_wp2_with fail
  refine (text_ref tx _ hx).mono ?_
  rw [hV]
  clear hV
  rintro e w1 ⟨rfl, hb⟩
  
  have hb2 : Below w.heap.size w w1 := ((Below.refl _ _).alloc (Nat.le_refl _) _).trans (hb.mono (by simp))
  obtain ⟨_, _, _, c3, c4⟩ := new5 w w1 _ _ _ _ _ _ hb
  cases V with
  | false =>
    go_wp2
    all_goals (go_ret; exact ⟨ret_bool (by simp [oneC, HV.out]), hb2⟩)
  | true =>
    go_wp2
    all_goals (go_ret; exact ⟨ret_bool (by simp [oneC, HV.out, beqD, *]), hb2⟩)
theorem one_4 : OneSays 4 := by
  intro nm tx num many w hx
  have hm : tx.size ≤ maxLen := by unfold maxLen; omega
  obtain ⟨V, hV⟩ : ∃ V, nameOk tx = V := ⟨_, rfl⟩
  have HV := Lib.hid hV
  go_enter Tryz.func87, Tryz.ntmps87
  go_wp2_with fail
  refine (name_ref tx _ hm).mono ?_
  rw [hV]
  clear hV
  rintro e w1 ⟨rfl, hb⟩
  subst hb
  
  
  cases V with
  | false =>
    go_wp2
    all_goals (go_ret; exact ⟨ret_bool (by simp [oneC, HV.out]), (Below.refl _ _).alloc (Nat.le_refl _) _⟩)
  | true =>
    go_wp2
    all_goals (go_ret; exact ⟨ret_bool (by simp [oneC, HV.out, beqD, *]), (Below.refl _ _).alloc (Nat.le_refl _) _⟩)
theorem one_5 : OneSays 5 := by
  intro nm tx num many w hx
  have hm : tx.size ≤ maxLen := by unfold maxLen; omega
  obtain ⟨V, hV⟩ : ∃ V, nameOk tx = V := ⟨_, rfl⟩
  have HV := Lib.hid hV
  go_enter Tryz.func87, Tryz.ntmps87
  go_wp2_with fail
  refine (name_ref tx _ hm).mono ?_
  rw [hV]
  clear hV
  rintro e w1 ⟨rfl, hb⟩
  subst hb
  
  
  cases V with
  | false =>
    go_wp2
    all_goals (go_ret; exact ⟨ret_bool (by simp [oneC, HV.out]), (Below.refl _ _).alloc (Nat.le_refl _) _⟩)
  | true =>
    go_wp2
    all_goals (go_ret; exact ⟨ret_bool (by simp [oneC, HV.out, beqD, *]), (Below.refl _ _).alloc (Nat.le_refl _) _⟩)
theorem one_more (k : Nat) (h : 8 ≤ k) (h2 : k ≤ 255) : OneSays k := by
  intro nm tx num many w hx
  have hV : oneC ⟨k, nm, tx, num, many⟩ = false := by
    unfold oneC
    simp only
    rw [if_neg (by omega), if_neg (by omega), if_neg (by omega), if_neg (by omega), if_neg (by omega), if_neg (by omega)]
  rw [hV]
  clear hV
  go_enter Tryz.func87, Tryz.ntmps87
  go_wp2
  go_ret
  exact ⟨rfl, (Below.refl _ _).alloc (Nat.le_refl _) _⟩
theorem one_ref (c : Cel) (w : World) (hc : CelW 2000000 c) : Calls Tryz.prog 87 #[.agg #[.int .u8 c.kind, .string c.name, .string c.text, .int .i64 c.num, .int .i64 c.many]] w fun e w' => e = .returned (.bool (oneC c)) ∧ Below w.heap.size w w' := by
  obtain ⟨k, nm, tx, num, many⟩ := c
  have hx := hc.text
  have hk := hc.kind
  simp only at hx hk ⊢
  have h8 : k = 0 ∨ k = 1 ∨ k = 2 ∨ k = 3 ∨ k = 4 ∨ k = 5 ∨ k = 6 ∨ k = 7 ∨ 8 ≤ k := by omega
  rcases h8 with rfl | rfl | rfl | rfl | rfl | rfl | rfl | rfl | h
  · exact one_0 nm tx num many w hx
  · exact one_1 nm tx num many w hx
  · exact one_2 nm tx num many w hx
  · exact one_3 nm tx num many w hx
  · exact one_4 nm tx num many w hx
  · exact one_5 nm tx num many w hx
  · exact one_6 nm tx num many w hx
  · exact one_7 nm tx num many w hx
  · exact one_more k h hk nm tx num many w hx
end
section
open Go.RowKit
def nest (c : Cel) : Prop := c.kind = 6 ∨ c.kind = 7
theorem bh_out {xs : List Cel} {a : Nat} (h : xs.length ≤ a) : ∀ d, bh xs d a = none
  | 0 => by unfold bh; rw [List.getElem?_eq_none h]
  | d + 1 => by rw [bh, List.getElem?_eq_none h]
theorem bh_bad {xs : List Cel} {a : Nat} {c : Cel} (h : xs[a]? = some c) (h1 : oneC c = false) : ∀ d, bh xs d a = none
  | 0 => by unfold bh; rw [h]; simp [h1]
  | d + 1 => by rw [bh, h]; simp [h1]
theorem bh_leaf {xs : List Cel} {a : Nat} {c : Cel} (h : xs[a]? = some c) (h1 : oneC c = true) (h2 : ¬ nest c) : ∀ d, bh xs d a = some (a + 1)
  | 0 => by
    unfold bh
    rw [h]
    simp only
    rw [if_pos ⟨h1, h2⟩]
  | d + 1 => by
    rw [bh, h]
    simp only
    rw [if_pos h1, if_neg (show ¬ (c.kind = 6 ∨ c.kind = 7) from h2)]
theorem bh_deep {xs : List Cel} {a : Nat} {c : Cel} (h : xs[a]? = some c) (h2 : nest c) : bh xs 0 a = none := by
  unfold bh
  rw [h]
  simp only
  rw [if_neg (fun g => g.2 h2)]
theorem bh_nest {xs : List Cel} {a : Nat} {c : Cel} (h : xs[a]? = some c) (h1 : oneC c = true) (h2 : nest c) (d : Nat) : bh xs (d + 1) a = loop (bh xs d) xs c.kind c.many.toNat (a + 1) [] := by
  rw [bh, h]
  simp only
  rw [if_pos h1, if_pos (show c.kind = 6 ∨ c.kind = 7 from h2)]
theorem Rd.cel1 {w : World} {B : Nat} {A : Option Addr} {xs : List Cel} (h : Rd w B A (cv xs)) {k : Nat} {c : Cel} (hk : xs[k]? = some c) :
    ∃ b off, A = some ⟨b, off, none⟩ ∧ b < B ∧ CelAt w b (off + k * 5) c := by
  obtain ⟨hl, rfl⟩ := List.getElem?_eq_some_iff.1 hk
  obtain ⟨b, off, e, hb, hc⟩ := h.cel hl
  exact ⟨b, off, e, hb, hc k hl⟩
set_option maxHeartbeats 2000000 in
theorem behind_out {xs : List Cel} (A : Option Addr) (cap : Nat) (d a : Nat) (w : World) (h : xs.length ≤ a) :
    Calls Tryz.prog 78 #[.slice A xs.length cap, .int .i64 a, .int .i64 d] w fun e w' => e = .returned (.int .i64 (ans (bh xs d a))) ∧ Below w.heap.size w w' := by
  rw [bh_out h]
  have h1 : (xs.length : Int) ≤ a := by omega
  go_enter Tryz.func78, Tryz.ntmps78
  go_wp2
  go_ret
  exact ⟨rfl, Below.refl _ _⟩
set_option maxHeartbeats 2000000 in
theorem behind_flat {xs : List Cel} {c : Cel} (A : Option Addr) (cap : Nat) (d a : Nat) (w : World) {B : Nat} (hx : Rd w B A (cv xs)) (hB : B ≤ w.heap.size) (hn : xs.length ≤ 1000000) (h : xs[a]? = some c) (hc : CelW 2000000 c) (hf : oneC c = false ∨ ¬ nest c ∨ d = 0) :
    Calls Tryz.prog 78 #[.slice A xs.length cap, .int .i64 a, .int .i64 d] w fun e w' => e = .returned (.int .i64 (ans (bh xs d a))) ∧ Below w.heap.size w w' := by
  obtain ⟨b, off, rfl, hb, c0, c1, c2, c3, c4⟩ := hx.cel1 h
  have hl := (List.getElem?_eq_some_iff.1 h).1
  have hlI : (a : Int) < xs.length := by omega
  have hk8 := hc.kind
  obtain ⟨V, hV⟩ : ∃ V, bh xs d a = V := ⟨_, rfl⟩
  rw [hV]
  cases ho : oneC c with
  | false =>
    rw [bh_bad h ho] at hV
    subst hV
    go_enter Tryz.func78, Tryz.ntmps78
    go_wp2_with fail
    refine (one_ref c _ hc).mono ?_
    rw [ho]
    clear ho hf
    rintro e w1 ⟨rfl, hb1⟩
    go_wp2
    go_ret
    exact ⟨rfl, hb1⟩
  | true =>
    by_cases hk : nest c
    · obtain rfl : d = 0 := by
        rcases hf with hf | hf | hf
        · rw [ho] at hf; cases hf
        · exact absurd hk hf
        · exact hf
      rw [bh_deep h hk] at hV
      subst hV
      go_enter Tryz.func78, Tryz.ntmps78
      go_wp2_with fail
      refine (one_ref c _ hc).mono ?_
      rw [ho]
      clear ho hf
      rintro e w1 ⟨rfl, hb1⟩
      have d0 := (hb1.cell (p := ⟨b, off + a * 5, none⟩) (by show b < w.heap.size; omega)).trans c0
      have d1 := (hb1.cell (p := ⟨b, off + a * 5 + 1, none⟩) (by show b < w.heap.size; omega)).trans c1
      have d2 := (hb1.cell (p := ⟨b, off + a * 5 + 2, none⟩) (by show b < w.heap.size; omega)).trans c2
      have d3 := (hb1.cell (p := ⟨b, off + a * 5 + 3, none⟩) (by show b < w.heap.size; omega)).trans c3
      have d4 := (hb1.cell (p := ⟨b, off + a * 5 + 4, none⟩) (by show b < w.heap.size; omega)).trans c4
      clear c0 c1 c2 c3 c4
      rcases hk with hk | hk <;> rw [hk] at d0
      · go_wp2
        go_ret
        exact ⟨rfl, hb1.alloc hb1.size _⟩
      · go_wp2
        go_ret
        exact ⟨rfl, hb1.alloc hb1.size _⟩
    · rw [bh_leaf h ho hk] at hV
      subst hV
      go_enter Tryz.func78, Tryz.ntmps78
      go_wp2_with fail
      refine (one_ref c _ hc).mono ?_
      rw [ho]
      clear ho hf
      rintro e w1 ⟨rfl, hb1⟩
      have d0 := (hb1.cell (p := ⟨b, off + a * 5, none⟩) (by show b < w.heap.size; omega)).trans c0
      have d1 := (hb1.cell (p := ⟨b, off + a * 5 + 1, none⟩) (by show b < w.heap.size; omega)).trans c1
      have d2 := (hb1.cell (p := ⟨b, off + a * 5 + 2, none⟩) (by show b < w.heap.size; omega)).trans c2
      have d3 := (hb1.cell (p := ⟨b, off + a * 5 + 3, none⟩) (by show b < w.heap.size; omega)).trans c3
      have d4 := (hb1.cell (p := ⟨b, off + a * 5 + 4, none⟩) (by show b < w.heap.size; omega)).trans c4
      clear c0 c1 c2 c3 c4
      have hk6 : ((c.kind : Int) != 6) = true := bne_iff_ne.2 (fun e => hk (.inl (by omega)))
      have hk7 : ((c.kind : Int) != 7) = true := bne_iff_ne.2 (fun e => hk (.inr (by omega)))
      clear hk
      go_wp2
      go_ret
      exact ⟨ret_int (by simp [ans]), hb1.alloc hb1.size _⟩
end
section
open Go.RowKit
theorem Cel.ext' {c d : Cel} (h1 : c.kind = d.kind) (h2 : c.name = d.name) (h3 : c.text = d.text) (h4 : c.num = d.num) (h5 : c.many = d.many) : c = d := by
  obtain ⟨a1, a2, a3, a4, a5⟩ := c
  obtain ⟨b1, b2, b3, b4, b5⟩ := d
  simp only at h1 h2 h3 h4 h5
  subst h1 h2 h3 h4 h5
  rfl
def eqC (c d : Cel) : Bool := (c.kind : Int) == (d.kind : Int) && (c.name.toList == d.name.toList && (c.text.toList == d.text.toList && (c.num == d.num && c.many == d.many)))
theorem eqC_iff (c d : Cel) : eqC c d = true ↔ c = d := by
  unfold eqC
  simp only [ba_beq, Bool.and_eq_true, beq_iff_eq, decide_eq_true_eq]
  constructor
  · rintro ⟨h1, h2, h3, h4, h5⟩
    exact Cel.ext' (by omega) h2 h3 h4 h5
  · rintro rfl
    exact ⟨rfl, rfl, rfl, rfl, rfl⟩
theorem neq_cell (c d : Cel) (w : World) : (binOp .neq 47 (.agg #[.int .u8 c.kind, .string c.name, .string c.text, .int .i64 c.num, .int .i64 c.many]) (.agg #[.int .u8 d.kind, .string d.name, .string d.text, .int .i64 d.num, .int .i64 d.many])).run Tryz.prog w = .ok (.bool (!eqC c d)) w := by
  have hS : Tryz.prog.underlying 47 = some (.struct (Tryz.prog.fieldsOf 47)) := by kernel_rfl
  have hp : Tryz.prog.stoodInHeld 47 = false := by kernel_rfl
  rw [run_neq_struct, show (10000 : Nat) = 9999 + 1 from rfl, run_equalIn_agg w 9999 47 _ _ hS hp]
  simp only [Program.fieldsOf, Tryz.underlying47]
  go_simp
  unfold eqC
  by_cases h1 : (c.kind : Int) = d.kind <;> by_cases h2 : c.name.toList = d.name.toList <;> by_cases h3 : c.text.toList = d.text.toList <;> by_cases h4 : c.num = d.num <;> by_cases h5 : c.many = d.many <;> simp [h1, h2, h3, h4, h5]
theorem guard_cell (op : BinOp) (a b : Operand) (c d : Cel) (w : World) : Sem.run Tryz.prog (eqGuard op 47 a b (.agg #[.int .u8 c.kind, .string c.name, .string c.text, .int .i64 c.num, .int .i64 c.many]) (.agg #[.int .u8 d.kind, .string d.name, .string d.text, .int .i64 d.num, .int .i64 d.many])) w = .ok () w :=
  (Go.Proofs.GuardAt.agg (fun x : Cel => #[.int .u8 x.kind, .string x.name, .string x.text, .int .i64 x.num, .int .i64 x.many]) (by kernel_rfl)) op a b c d w
def sameC : List Cel → List Cel → Bool
  | [], [] => true
  | c :: r, d :: s => eqC c d && sameC r s
  | _, _ => false
theorem sameC_iff : ∀ xs ys, sameC xs ys = true ↔ xs = ys
  | [], [] => by simp [sameC]
  | c :: r, d :: s => by
    rw [sameC, Bool.and_eq_true, eqC_iff, sameC_iff r s]
    simp
  | [], d :: s => by simp [sameC]
  | c :: r, [] => by simp [sameC]
theorem sameC_len : ∀ xs ys, sameC xs ys = true → xs.length = ys.length := fun xs ys h => by rw [(sameC_iff xs ys).1 h]
theorem sameC_drop {xs ys : List Cel} {k : Nat} (h1 : k < xs.length) (h2 : k < ys.length) : sameC (xs.drop k) (ys.drop k) = (eqC xs[k] ys[k] && sameC (xs.drop (k + 1)) (ys.drop (k + 1))) := by
  rw [List.drop_eq_getElem_cons h1, List.drop_eq_getElem_cons h2, sameC]
set_option maxHeartbeats 2000000 in
theorem same_ref {xs ys : List Cel} (A A' : Option Addr) (c c' : Nat) (w : World) {B B' : Nat} (hx : Rd w B A (cv xs)) (hy : Rd w B' A' (cv ys)) (hB : B ≤ w.heap.size) (hB' : B' ≤ w.heap.size) (hn : xs.length ≤ 1000000000) :
    Calls Tryz.prog 37 #[.slice A xs.length c, .slice A' ys.length c'] w fun e w' => e = .returned (.bool (sameC xs ys)) ∧ Below w.heap.size w w' := by
  have hng := neq_cell
  have hgd := guard_cell
  by_cases hl : xs.length = ys.length
  · obtain ⟨V, hV⟩ : ∃ V, sameC xs ys = V := ⟨_, rfl⟩
    rw [hV]
    have HV := Lib.hid hV
    clear hV
    obtain ⟨n, hN⟩ : ∃ n, ys.length = n := ⟨_, rfl⟩
    rw [hN] at hl ⊢
    rw [hl] at hn ⊢
    have HL := Lib.hid hl
    have HN := Lib.hid hN
    clear hl hN
    go_enter Tryz.func37, Tryz.ntmps37
    go_wp2
    go_loopw [5] (fun i wr => ∃ k : Nat, k ≤ n ∧ i = .int .i64 k ∧ sameC (xs.drop k) (ys.drop k) = V ∧ Below w.heap.size w wr) (fun i _ => n - (intOf i).toNat)
    case atStart => exact ⟨0, Nat.zero_le _, rfl, by rw [List.drop_zero, List.drop_zero, HV.out], Below.refl _ _⟩
    case round =>
      obtain ⟨k, hk, rfl, hd, hb⟩ := hrel
      by_cases hlt : k < n
      · have hk1 : k < xs.length := by rw [HL.out]; exact hlt
        have hk2 : k < ys.length := by rw [HN.out]; exact hlt
        rw [sameC_drop hk1 hk2] at hd
        obtain ⟨b, off, rfl, hbl, c0, c1, c2, c3, c4⟩ := hx.cel1 (List.getElem?_eq_getElem hk1)
        obtain ⟨b2, off2, rfl, hbl2, d0, d1, d2, d3, d4⟩ := hy.cel1 (List.getElem?_eq_getElem hk2)
        have kx : ∀ o v, w.cell? ⟨b, o, none⟩ = some v → wr.cell? ⟨b, o, none⟩ = some v := fun o v g => (hb.cell (p := ⟨b, o, none⟩) (by show b < w.heap.size; omega)).trans g
        have ky : ∀ o v, w.cell? ⟨b2, o, none⟩ = some v → wr.cell? ⟨b2, o, none⟩ = some v := fun o v g => (hb.cell (p := ⟨b2, o, none⟩) (by show b2 < w.heap.size; omega)).trans g
        replace c0 := kx _ _ c0
        replace c1 := kx _ _ c1
        replace c2 := kx _ _ c2
        replace c3 := kx _ _ c3
        replace c4 := kx _ _ c4
        replace d0 := ky _ _ d0
        replace d1 := ky _ _ d1
        replace d2 := ky _ _ d2
        replace d3 := ky _ _ d3
        replace d4 := ky _ _ d4
        obtain ⟨x, hxk⟩ : ∃ x, xs[k] = x := ⟨_, rfl⟩
        obtain ⟨y, hyk⟩ : ∃ y, ys[k] = y := ⟨_, rfl⟩
        rw [hxk] at c0 c1 c2 c3 c4 hd
        rw [hyk] at d0 d1 d2 d3 d4 hd
        have hlI : (k : Int) < n := by omega
        have q1 := hng x y
        have q2 := fun op p q => hgd op p q x y
        have HX := Lib.hid hx
        have HY := Lib.hid hy
        clear hx hy hxk hyk kx ky hng hgd
        cases hq : eqC x y with
        | true =>
          rw [hq, Bool.true_and] at hd
          rw [hq] at q1
          have HD := Lib.hid hd
          clear hq hd
          go_wp2
          go_quiet (fail)
          go_wp2
          go_roundw
          case rel => exact ⟨k + 1, hlt, by go_num, HD.out, hb.drewN' _⟩
          case measure => simp [intOf]; omega
        | false =>
          rw [hq, Bool.false_and] at hd
          subst hd
          rw [hq] at q1
          clear hq HV
          go_wp2
          go_quiet (fail)
          go_wp2
          go_ret
          exact ⟨rfl, hb.drewN' _⟩
      · obtain rfl : k = n := by omega
        rw [List.drop_of_length_le (by rw [HL.out]; exact Nat.le_refl _), List.drop_of_length_le (by rw [HN.out]; exact Nat.le_refl _)] at hd
        have hv : V = true := by rw [← hd]; rfl
        subst hv
        clear hd HV
        go_wp2
        go_ret
        exact ⟨rfl, hb⟩
  · have hV : sameC xs ys = false := by
      cases h : sameC xs ys with
      | false => rfl
      | true => exact absurd (sameC_len _ _ h) hl
    have hlB : ((xs.length : Int) != ys.length) = true := bne_iff_ne.2 (by omega)
    rw [hV]
    go_enter Tryz.func37, Tryz.ntmps37
    go_wp2
    go_ret
    exact ⟨rfl, Below.refl _ _⟩
set_option maxHeartbeats 2000000 in
theorem equal_any {xs ys : List Cel} (A A' : Option Addr) (c c' : Nat) (w : World) {B B' : Nat} (hx : Rd w B A (cv xs)) (hy : Rd w B' A' (cv ys)) (hB : B ≤ w.heap.size) (hB' : B' ≤ w.heap.size) (hn : xs.length ≤ 1000000000) :
    Calls Tryz.prog 68 #[.slice A xs.length c, .slice A' ys.length c'] w fun e w' => e = .returned (.bool (sameC xs ys)) ∧ Below w.heap.size w w' := by
  have hng := neq_cell
  have hgd := guard_cell
  by_cases hl : xs.length = ys.length
  · obtain ⟨V, hV⟩ : ∃ V, sameC xs ys = V := ⟨_, rfl⟩
    rw [hV]
    have HV := Lib.hid hV
    clear hV
    obtain ⟨n, hN⟩ : ∃ n, ys.length = n := ⟨_, rfl⟩
    rw [hN] at hl ⊢
    rw [hl] at hn ⊢
    have HL := Lib.hid hl
    have HN := Lib.hid hN
    clear hl hN
    go_enter Tryz.func68, Tryz.ntmps68
    go_wp2
    go_loopw [13] (fun i wr => ∃ k : Nat, k ≤ n ∧ i = .int .i64 k ∧ sameC (xs.drop k) (ys.drop k) = V ∧ Below w.heap.size w wr) (fun i _ => n - (intOf i).toNat)
    case atStart => exact ⟨0, Nat.zero_le _, rfl, by rw [List.drop_zero, List.drop_zero, HV.out], Below.refl _ _⟩
    case round =>
      obtain ⟨k, hk, rfl, hd, hb⟩ := hrel
      by_cases hlt : k < n
      · have hk1 : k < xs.length := by rw [HL.out]; exact hlt
        have hk2 : k < ys.length := by rw [HN.out]; exact hlt
        rw [sameC_drop hk1 hk2] at hd
        obtain ⟨b, off, rfl, hbl, c0, c1, c2, c3, c4⟩ := hx.cel1 (List.getElem?_eq_getElem hk1)
        obtain ⟨b2, off2, rfl, hbl2, d0, d1, d2, d3, d4⟩ := hy.cel1 (List.getElem?_eq_getElem hk2)
        have kx : ∀ o v, w.cell? ⟨b, o, none⟩ = some v → wr.cell? ⟨b, o, none⟩ = some v := fun o v g => (hb.cell (p := ⟨b, o, none⟩) (by show b < w.heap.size; omega)).trans g
        have ky : ∀ o v, w.cell? ⟨b2, o, none⟩ = some v → wr.cell? ⟨b2, o, none⟩ = some v := fun o v g => (hb.cell (p := ⟨b2, o, none⟩) (by show b2 < w.heap.size; omega)).trans g
        replace c0 := kx _ _ c0
        replace c1 := kx _ _ c1
        replace c2 := kx _ _ c2
        replace c3 := kx _ _ c3
        replace c4 := kx _ _ c4
        replace d0 := ky _ _ d0
        replace d1 := ky _ _ d1
        replace d2 := ky _ _ d2
        replace d3 := ky _ _ d3
        replace d4 := ky _ _ d4
        obtain ⟨x, hxk⟩ : ∃ x, xs[k] = x := ⟨_, rfl⟩
        obtain ⟨y, hyk⟩ : ∃ y, ys[k] = y := ⟨_, rfl⟩
        rw [hxk] at c0 c1 c2 c3 c4 hd
        rw [hyk] at d0 d1 d2 d3 d4 hd
        have hlI : (k : Int) < n := by omega
        have q1 := hng x y
        have q2 := fun op p q => hgd op p q x y
        have HX := Lib.hid hx
        have HY := Lib.hid hy
        clear hx hy hxk hyk kx ky hng hgd
        cases hq : eqC x y with
        | true =>
          rw [hq, Bool.true_and] at hd
          rw [hq] at q1
          have HD := Lib.hid hd
          clear hq hd
          go_wp2
          go_quiet (fail)
          go_wp2
          go_roundw
          case rel => exact ⟨k + 1, hlt, by go_num, HD.out, hb.drewN' _⟩
          case measure => simp [intOf]; omega
        | false =>
          rw [hq, Bool.false_and] at hd
          subst hd
          rw [hq] at q1
          clear hq HV
          go_wp2
          go_quiet (fail)
          go_wp2
          go_ret
          exact ⟨rfl, hb.drewN' _⟩
      · obtain rfl : k = n := by omega
        rw [List.drop_of_length_le (by rw [HL.out]; exact Nat.le_refl _), List.drop_of_length_le (by rw [HN.out]; exact Nat.le_refl _)] at hd
        have hv : V = true := by rw [← hd]; rfl
        subst hv
        clear hd HV
        go_wp2
        go_ret
        exact ⟨rfl, hb⟩
  · have hV : sameC xs ys = false := by
      cases h : sameC xs ys with
      | false => rfl
      | true => exact absurd (sameC_len _ _ h) hl
    have hlB : ((xs.length : Int) != ys.length) = true := bne_iff_ne.2 (by omega)
    rw [hV]
    go_enter Tryz.func68, Tryz.ntmps68
    go_wp2
    go_ret
    exact ⟨rfl, Below.refl _ _⟩
theorem same_any {xs ys : List Cel} (A A' : Option Addr) (c c' : Nat) (w : World) {B B' : Nat} (hx : Rd w B A (cv xs)) (hy : Rd w B' A' (cv ys)) (hB : B ≤ w.heap.size) (hB' : B' ≤ w.heap.size) (hn : xs.length ≤ 1000000000) :
    Calls Tryz.prog 46 #[.slice A xs.length c, .slice A' ys.length c'] w fun e w' => e = .returned (.bool (sameC xs ys)) ∧ Below w.heap.size w w' := by
  have hc := equal_any A A' c c' w hx hy hB hB' hn
  go_enter Tryz.func46, Tryz.ntmps46
  go_wp2_with fail
  refine hc.mono ?_
  rintro e w1 ⟨rfl, hb⟩
  go_wp2
  go_ret
  exact ⟨rfl, hb⟩
end
section
open Go.RowKit
def inSet (b : UInt8) : Bool := isLetter b || isDigit b
theorem cut_set (b : UInt8) : ((⟨#[95, 97, 98, 99, 100, 101, 102, 103, 104, 105, 106, 107, 108, 109, 110, 111, 112, 113, 114, 115, 116, 117, 118, 119, 120, 121, 122, 65, 66, 67, 68, 69, 70, 71, 72, 73, 74, 75, 76, 77, 78, 79, 80, 81, 82, 83, 84, 85, 86, 87, 88, 89, 90, 48, 49, 50, 51, 52, 53, 54, 55, 56, 57]⟩ : ByteArray).data.toList).contains b = inSet b := by
  have q : ∀ i : Fin 256, ((⟨#[95, 97, 98, 99, 100, 101, 102, 103, 104, 105, 106, 107, 108, 109, 110, 111, 112, 113, 114, 115, 116, 117, 118, 119, 120, 121, 122, 65, 66, 67, 68, 69, 70, 71, 72, 73, 74, 75, 76, 77, 78, 79, 80, 81, 82, 83, 84, 85, 86, 87, 88, 89, 90, 48, 49, 50, 51, 52, 53, 54, 55, 56, 57]⟩ : ByteArray).data.toList).contains (UInt8.ofNat i.1) = inSet (UInt8.ofNat i.1) := by decide +kernel
  have := q ⟨b.toNat, b.toNat_lt⟩
  simpa only [UInt8.ofNat_toNat] using this
theorem dig_set (b : UInt8) : decide (0 ≤ Lib.indexByte ((⟨#[48, 49, 50, 51, 52, 53, 54, 55, 56, 57]⟩ : ByteArray).data.toList) b) = isDigit b := by
  have q : ∀ i : Fin 256, decide (0 ≤ Lib.indexByte ((⟨#[48, 49, 50, 51, 52, 53, 54, 55, 56, 57]⟩ : ByteArray).data.toList) (UInt8.ofNat i.1)) = isDigit (UInt8.ofNat i.1) := by decide +kernel
  have := q ⟨b.toNat, b.toNat_lt⟩
  simpa only [UInt8.ofNat_toNat] using this
theorem let_set (b : UInt8) (h : inSet b = true) : b.toNat < 128 ∧ 0 ≤ Lib.indexByte ((⟨#[95, 97, 98, 99, 100, 101, 102, 103, 104, 105, 106, 107, 108, 109, 110, 111, 112, 113, 114, 115, 116, 117, 118, 119, 120, 121, 122, 65, 66, 67, 68, 69, 70, 71, 72, 73, 74, 75, 76, 77, 78, 79, 80, 81, 82, 83, 84, 85, 86, 87, 88, 89, 90, 48, 49, 50, 51, 52, 53, 54, 55, 56, 57]⟩ : ByteArray).data.toList) b ∧ isLetter b = !isDigit b := by
  have q : ∀ i : Fin 256, inSet (UInt8.ofNat i.1) = true → (UInt8.ofNat i.1).toNat < 128 ∧ 0 ≤ Lib.indexByte ((⟨#[95, 97, 98, 99, 100, 101, 102, 103, 104, 105, 106, 107, 108, 109, 110, 111, 112, 113, 114, 115, 116, 117, 118, 119, 120, 121, 122, 65, 66, 67, 68, 69, 70, 71, 72, 73, 74, 75, 76, 77, 78, 79, 80, 81, 82, 83, 84, 85, 86, 87, 88, 89, 90, 48, 49, 50, 51, 52, 53, 54, 55, 56, 57]⟩ : ByteArray).data.toList) (UInt8.ofNat i.1) ∧ isLetter (UInt8.ofNat i.1) = !isDigit (UInt8.ofNat i.1) := by decide +kernel
  have := q ⟨b.toNat, b.toNat_lt⟩
  simp only [UInt8.ofNat_toNat] at this
  exact this h
theorem dropWhile_nil (p : UInt8 → Bool) : ∀ l : List UInt8, l.dropWhile p = [] ↔ l.all p = true
  | [] => by simp
  | b :: r => by
    cases h : p b with
    | true => rw [List.dropWhile_cons_of_pos h, dropWhile_nil p r]; simp [h]
    | false => rw [List.dropWhile_cons_of_neg (by simp [h])]; simp [h]
theorem trim_nil (p : UInt8 → Bool) (l : List UInt8) : ((l.reverse.dropWhile p).reverse.dropWhile p = []) ↔ l.all p = true := by
  rw [dropWhile_nil]
  constructor
  · intro h
    rw [List.all_reverse] at h
    have e : l.reverse = l.reverse.takeWhile p ++ l.reverse.dropWhile p := (List.takeWhile_append_dropWhile).symm
    rw [← List.all_reverse, e, List.all_append, h, Bool.and_true]
    exact List.all_takeWhile
  · intro h
    rw [(dropWhile_nil p l.reverse).2 (by rw [List.all_reverse]; exact h)]
    rfl
theorem nameFrom_all : ∀ (l : List UInt8) (j : Nat), 0 < j → nameFrom l j = l.all inSet
  | [], j, _ => rfl
  | b :: r, j, h => by
    rw [nameFrom, nameFrom_all r (j + 1) (by omega)]
    simp [inSet, h]
theorem nameOk_cons {s : ByteArray} {b : UInt8} {r : List UInt8} (h : s.data.toList = b :: r) : nameOk s = (isLetter b && r.all inSet) := by
  have hz : 0 < s.size := by rw [← size_data, h]; simp
  rw [nameOk, h, nameFrom, nameFrom_all r 1 (by omega)]
  simp [hz]
theorem nameOk_not {s : ByteArray} (h : s.data.toList.all inSet = false) : nameOk s = false := by
  cases hl : s.data.toList with
  | nil => rw [hl] at h; cases h
  | cons b r =>
    rw [nameOk_cons hl]
    rw [hl, List.all_cons] at h
    cases h1 : r.all inSet with
    | false => simp
    | true =>
      rw [h1, Bool.and_true] at h
      have : isLetter b = false := by
        unfold inSet at h
        simp at h
        exact h.1
      simp [this]
theorem name1_any (b : UInt8) (w : World) (h : inSet b = true) : Calls Tryz.prog 102 #[.int .i32 b.toNat] w fun e w' => e = .returned (.bool false) ∧ w' = w := by
  obtain ⟨h1, h2, _⟩ := let_set b h
  have hc := Tryz.strings_ContainsRune_ascii ⟨#[95, 97, 98, 99, 100, 101, 102, 103, 104, 105, 106, 107, 108, 109, 110, 111, 112, 113, 114, 115, 116, 117, 118, 119, 120, 121, 122, 65, 66, 67, 68, 69, 70, 71, 72, 73, 74, 75, 76, 77, 78, 79, 80, 81, 82, 83, 84, 85, 86, 87, 88, 89, 90, 48, 49, 50, 51, 52, 53, 54, 55, 56, 57]⟩ b.toNat w (by omega) (by omega)
  rw [show ((b.toNat : Int)).toNat.toUInt8 = b by simp, decide_eq_true h2] at hc
  go_enter Tryz.func102, Tryz.ntmps102
  go_wp2_with fail
  refine hc.mono ?_
  rintro e w1 ⟨rfl, rfl⟩
  go_wp2
  go_ret
  exact ⟨rfl, rfl⟩
theorem get_all {s : ByteArray} (h : s.data.toList.all inSet = true) (k : Nat) (hk : k < s.size) : inSet s[k] = true := by
  rw [List.all_eq_true] at h
  refine h _ ?_
  simp [ByteArray.getElem_eq_getElem_data]
set_option maxHeartbeats 1000000 in
theorem indexFunc_none (s : ByteArray) (w : World) (hs : s.size ≤ maxLen) (h : s.data.toList.all inSet = true) :
    Calls Tryz.prog 121 #[.string s, .func (.func 102) #[] #[], .bool true] w fun e w' => e = .returned (.int .i64 (-1)) ∧ Below w.heap.size w w' := by
  unfold maxLen at hs
  have HA := Lib.hid h
  clear h
  go_enter Tryz.func121, Tryz.ntmps121
  go_wp2
  go_loopw [7] (fun _ wr => ∃ k : Nat, k ≤ s.size ∧ wr.heap[w.heap.size]? = some (.stringIter s k) ∧ Below w.heap.size w wr) (fun _ wr => s.size - wr.iterPos w.heap.size)
  case atStart => exact ⟨0, by omega, heap_alloc_new _ _, (Below.refl _ _).alloc (Nat.le_refl _) _⟩
  case round =>
    obtain ⟨k, hk, hit, hb⟩ := hrel
    by_cases hlt : k < s.size
    · have hset := get_all HA.out k hlt
      have hlow := (let_set _ hset).1
      have hnx := fun ty => Lib.run_next_ascii_at (P := Tryz.prog) wr w.heap.size s k ty hit hlt hlow
      have hit2 := Lib.iterAt_heap wr w.heap.size s k (k + 1) hit
      have hb2 := Lib.below_iterAt hb (Nat.le_refl w.heap.size) s (k + 1)
      have hcall := fun W => name1_any s[k] W hset
      obtain ⟨x, hx⟩ : ∃ x, s[k].toNat = x := ⟨_, rfl⟩
      rw [hx] at hnx hcall
      have HK := Lib.hid hlt
      have HIT := Lib.hid hit
      clear hx hset hlow hlt
      go_wp2_with (go_at_call 102; refine (hcall _).mono ?_; rintro e w4 ⟨rfl, rfl⟩)
      refine ⟨⟨k + 1, HK.out, hit2, hb2⟩, ?_⟩
      simp only [World.iterPos, HIT.out, hit2]
      have := HK.out
      omega
    · obtain rfl : k = s.size := by omega
      have hnx := fun ty => Lib.run_next_end_at (P := Tryz.prog) wr w.heap.size s s.size ty hit (by omega)
      go_wp2
      go_ret
      exact ⟨rfl, hb⟩
theorem containsFunc_none (s : ByteArray) (w : World) (hs : s.size ≤ maxLen) (h : s.data.toList.all inSet = true) :
    Calls Tryz.prog 101 #[.string s, .func (.func 102) #[] #[]] w fun e w' => e = .returned (.bool false) ∧ Below w.heap.size w w' := by
  have hc := indexFunc_none s w hs h
  go_enter Tryz.func101, Tryz.ntmps101
  go_wp2_with (first | (go_at_call 121; refine hc.mono ?_; rintro e w1 ⟨rfl, hb1⟩) | go_in)
  go_ret
  exact ⟨rfl, hb1⟩
theorem extract_one {s : ByteArray} {b : UInt8} {r : List UInt8} (h : s.data.toList = b :: r) : s.extract 0 1 = ⟨#[b]⟩ := by
  apply ba_ext
  rw [Lib.toList_data, Lib.toList_data, Lib.extract_data, h]
  simp
set_option maxHeartbeats 2000000 in
theorem name_any (s : ByteArray) (w : World) (hs : s.size ≤ maxLen) : Calls Tryz.prog 95 #[.string s] w fun e w' => e = .returned (.bool (nameOk s)) ∧ Below w.heap.size w w' := by
  have htrim := Tryz.strings_Trim_laid s ⟨#[95, 97, 98, 99, 100, 101, 102, 103, 104, 105, 106, 107, 108, 109, 110, 111, 112, 113, 114, 115, 116, 117, 118, 119, 120, 121, 122, 65, 66, 67, 68, 69, 70, 71, 72, 73, 74, 75, 76, 77, 78, 79, 80, 81, 82, 83, 84, 85, 86, 87, 88, 89, 90, 48, 49, 50, 51, 52, 53, 54, 55, 56, 57]⟩ w (by unfold maxLen at hs; omega) (by decide +kernel) (ascii_of_all (by decide +kernel))
  obtain ⟨T, hT⟩ : ∃ T, Lib.trimS s.data.toList ((⟨#[95, 97, 98, 99, 100, 101, 102, 103, 104, 105, 106, 107, 108, 109, 110, 111, 112, 113, 114, 115, 116, 117, 118, 119, 120, 121, 122, 65, 66, 67, 68, 69, 70, 71, 72, 73, 74, 75, 76, 77, 78, 79, 80, 81, 82, 83, 84, 85, 86, 87, 88, 89, 90, 48, 49, 50, 51, 52, 53, 54, 55, 56, 57]⟩ : ByteArray).data.toList) = T := ⟨_, rfl⟩
  have hTn : T = [] ↔ s.data.toList.all inSet = true := by
    rw [← hT]
    unfold Lib.trimS Lib.trimLeftS Lib.trimRightS
    have e : (fun b => ((⟨#[95, 97, 98, 99, 100, 101, 102, 103, 104, 105, 106, 107, 108, 109, 110, 111, 112, 113, 114, 115, 116, 117, 118, 119, 120, 121, 122, 65, 66, 67, 68, 69, 70, 71, 72, 73, 74, 75, 76, 77, 78, 79, 80, 81, 82, 83, 84, 85, 86, 87, 88, 89, 90, 48, 49, 50, 51, 52, 53, 54, 55, 56, 57]⟩ : ByteArray).data.toList).contains b) = inSet := funext cut_set
    rw [e]
    exact trim_nil inSet s.data.toList
  rw [hT] at htrim
  clear hT
  cases hl : s.data.toList with
  | nil =>
    have hz : s.size = 0 := by rw [← size_data, hl]; rfl
    have hV : nameOk s = false := by simp [nameOk, hz]
    obtain rfl : s = e0 := ba_ext (by rw [Lib.toList_data, hl, Lib.toList_data]; rfl)
    rw [hV]
    clear htrim hTn hV hl hz hs
    unfold e0
    go_enter Tryz.func95, Tryz.ntmps95
    go_wp2
    go_ret
    exact ⟨rfl, Below.refl _ _⟩
  | cons b r =>
    have hz : 0 < s.size := by rw [← size_data, hl]; simp
    have hne : (s.toList == ([] : List UInt8)) = false := by rw [Lib.toList_data, hl]; rfl
    have hne2 : ¬ s.toList = [] := by rw [Lib.toList_data, hl]; simp
    have hne3 : s.toList.isEmpty = false := by rw [Lib.toList_data, hl]; rfl
    cases ha : s.data.toList.all inSet with
    | false =>
      have hV := nameOk_not ha
      have hTe : ¬ T = [] := fun h => by rw [hTn.1 h] at ha; cases ha
      have hTl : ¬ (ByteArray.mk T.toArray).toList = [] := by rw [Lib.toList_data]; simpa using hTe
      have hTm : (ByteArray.mk T.toArray).toList.isEmpty = false := by rw [Lib.toList_data]; simpa using hTe
      rw [hV]
      obtain ⟨X, hX⟩ : ∃ X, ByteArray.mk T.toArray = X := ⟨_, rfl⟩
      rw [hX] at htrim hTl hTm
      clear hTn hV hl hTe ha hX
      go_enter Tryz.func95, Tryz.ntmps95
      go_wp2_with (first | (go_at_call 99; refine htrim.mono ?_; rintro e w1 ⟨rfl, hb1⟩) | fail)
      go_ret
      exact ⟨rfl, hb1⟩
    | true =>
      obtain rfl := hTn.2 ha
      have hV : nameOk s = isLetter b := by
        rw [nameOk_cons hl]
        rw [hl, List.all_cons] at ha
        simp only [Bool.and_eq_true] at ha
        rw [ha.2, Bool.and_true]
      have hb : inSet b = true := by
        rw [hl, List.all_cons] at ha
        simp only [Bool.and_eq_true] at ha
        exact ha.1
      rw [hV, (let_set b hb).2.2]
      have hx := extract_one hl
      have hcon := fun W => Tryz.strings_Contains_one ⟨#[48, 49, 50, 51, 52, 53, 54, 55, 56, 57]⟩ b W
      rw [dig_set b] at hcon
      have hcf := fun W => containsFunc_none s W hs ha
      clear hV hTn hl ha hb
      cases hd : isDigit b <;> rw [hd] at hcon
      · go_enter Tryz.func95, Tryz.ntmps95
        go_wp2_with (first | (go_at_call 99; refine htrim.mono ?_; rintro e w1 ⟨rfl, hb1⟩) | (go_at_call 100; refine (hcon _).mono ?_; rintro e w2 ⟨rfl, rfl⟩) | (go_at_call 101; refine (hcf _).mono ?_; rintro e w3 ⟨rfl, hb3⟩))
        go_ret
        exact ⟨rfl, hb1.trans (hb3.mono hb1.size)⟩
      · go_enter Tryz.func95, Tryz.ntmps95
        go_wp2_with (first | (go_at_call 99; refine htrim.mono ?_; rintro e w1 ⟨rfl, hb1⟩) | (go_at_call 100; refine (hcon _).mono ?_; rintro e w2 ⟨rfl, rfl⟩))
        go_ret
        exact ⟨rfl, hb1⟩
end
section
open Go.RowKit
theorem none_any (s : ByteArray) (w : World) : Calls Tryz.prog 90 #[.string s] w fun e w' => e = .returned (.bool (decide (s = e0))) ∧ w' = w := by
  rw [e0_isE]
  go_enter Tryz.func90, Tryz.ntmps90
  go_wp2
  go_ret
  exact ⟨rfl, rfl⟩
theorem zero_any (n : Int) (w : World) : Calls Tryz.prog 91 #[.int .i64 n] w fun e w' => e = .returned (.bool (decide (n = 0))) ∧ w' = w := by
  rw [← beqD]
  go_enter Tryz.func91, Tryz.ntmps91
  go_wp2
  go_ret
  exact ⟨rfl, rfl⟩
theorem kinds1_any (n : Int) (w : World) : Calls Tryz.prog 92 #[.int .i64 n] w fun e w' => e = .returned (.bool (decide (n = 0) || decide (n = 1))) ∧ w' = w := by
  by_cases h : n = 0
  · subst h
    go_enter Tryz.func92, Tryz.ntmps92
    go_wp2
    go_ret
    exact ⟨rfl, rfl⟩
  · rw [decide_eq_false h, Bool.false_or, ← beqD]
    have h0 : (n == 0) = false := beq_eq_false_iff_ne.2 h
    go_enter Tryz.func92, Tryz.ntmps92
    go_wp2
    go_ret
    exact ⟨rfl, rfl⟩
theorem kinds2_any (n : Int) (w : World) : Calls Tryz.prog 93 #[.int .i64 n] w fun e w' => e = .returned (.bool true) ∧ w' = w := by
  go_enter Tryz.func93, Tryz.ntmps93
  go_wp2
  go_ret
  exact ⟨rfl, rfl⟩
theorem checkV_ok (s : ByteArray) : ((checkV s : Int) == 0) = textOk s := by
  unfold checkV textOk
  by_cases h : 16384 < s.size
  · rw [if_pos h, decide_eq_false (by omega)]; rfl
  · rw [if_neg h, decide_eq_true (by omega), Bool.true_and]
    cases Lib.validD s.data.toList <;> rfl
theorem kinds3_any (s : ByteArray) (w : World) (hs : s.size ≤ maxLen) (hT : Tabs w) : Calls Tryz.prog 94 #[.string s] w fun e w' => e = .returned (.bool (textOk s)) ∧ Below w.heap.size w w' := by
  have hc := check_any s w hs hT
  rw [← checkV_ok]
  go_enter Tryz.func94, Tryz.ntmps94
  go_wp2_with fail
  refine hc.mono ?_
  rintro e w1 ⟨rfl, hb1⟩
  go_wp2
  go_ret
  exact ⟨rfl, hb1⟩
def fv (n : Nat) : Value := .func (.func n) #[] #[]
/-- what cell.kinds answers, cell by cell -/
def kindsA : Array Value := #[fv 90, fv 91, .bool false, fv 90, fv 92, .bool false, fv 90, fv 93, .bool false,
  fv 94, fv 91, .bool false, fv 95, fv 91, .bool false, fv 95, fv 91, .bool false,
  fv 90, fv 91, .bool true, fv 90, fv 91, .bool true]
theorem kinds_one : kindsA.all (·.oneCell') = true := by kernel_rfl
theorem kinds_info : (Tryz.prog.info? 108).map (·.size) = some kindsA.size := by kernel_rfl
theorem wpList_storeK {ops : Array Oper} {rest : List Oper} {o : Oper} {a : Act} {w : World} {Q : Exit → Act → World → Prop} (hgd : o.guard = none) (x y : Operand) (ho : o.op = .store 108 x y)
    (g : Nat) (xs : Array Value) (t : TypeId) (hx : a.eval x = .pointer (some ⟨g, 0, none⟩)) (hy : a.eval y = .agg kindsA) (hg : w.heap[g]? = some (.cells xs t)) (hl : xs.size = 24)
    (h : wpList Tryz.prog ops Q rest (a.put o.dst undef) (w.setRow g kindsA)) : wpList Tryz.prog ops Q (o :: rest) a w :=
  wpList_plain hgd fun _ hK => wp_store_row 108 x y ho g kindsA hx hy t xs hg kinds_info hl kinds_one (hK _ _ h)
theorem wpList_storeK2 {ops : Array Oper} {rest : List Oper} {o : Oper} {a : Act} {w : World} {Q : Exit → Act → World → Prop} (hgd : o.guard = none) (x y : Operand) (ho : o.op = .store 108 x y)
    (g : Nat) (xs : Array Value) (t : TypeId) (hx : a.eval x = .pointer (some ⟨g, 0, none⟩)) (hy : a.eval y = .agg kindsA) (hg : w.heap[g]? = some (.cells xs t)) (hl : xs.size = 24)
    (h : ∀ w', w'.heap[g]? = some (.cells kindsA t) → w.grownBy w' (some g) → wpList Tryz.prog ops Q rest (a.put o.dst undef) w') : wpList Tryz.prog ops Q (o :: rest) a w :=
  wpList_storeK hgd x y ho g xs t hx hy hg hl (h _ (setRow_heap _ _ _ _ _ _ hg) ⟨rfl, rfl, rfl, by simp [World.setRow], fun k _ hn => setRow_other _ _ _ _ (fun e => hn (by rw [e]))⟩)
theorem resK {fn : Func} (h : fn.results = #[.cell 0 108]) (tmps : Array Value) (w : World) (b : Nat) (t : TypeId) (h0 : tmps.getD 0 undef = .pointer (some ⟨b, 0, none⟩)) (hc : w.heap[b]? = some (.cells kindsA t)) :
    (results fn tmps).run Tryz.prog w = .ok (.agg kindsA) w := by
  have h1 : tmps[0]?.getD undef = .pointer (some ⟨b, 0, none⟩) := by simpa using h0
  simp only [results, h]
  simp [h1, asAddr, run_loadVar_row w b t 108 kindsA (0, 0) (.array 8 107) hc Tryz.underlying108 rfl kinds_info]
theorem below_setRow {B b : Nat} {w w' : World} (h : Below B w w') (hb : B ≤ b) (c : Array Value) : Below B w (w'.setRow b c) := by
  refine h.trans ⟨rfl, rfl, rfl, by simp [World.setRow], fun j hj => ?_⟩
  simp only [World.setRow, Array.getElem?_modify]
  rw [if_neg (by omega)]
theorem kinds_any (w : World) : Calls Tryz.prog 81 #[] w fun e w' => e = .returned (.agg kindsA) ∧ Below w.heap.size w w' := by
  go_enter Tryz.func81, Tryz.ntmps81
  go_wp2_with (refine wpList_storeK (by rfl) (.tmp 0) (.tmp 9) (by rfl) w.heap.size _ _ (by rfl) (by rfl) (heap_alloc_new _ _) (by rfl) ?_)
  exact bodyPost_ret (resK Tryz.results81 _ _ w.heap.size _ rfl (setRow_heap _ _ _ _ _ _ (heap_alloc_new _ _))) rfl ⟨rfl, below_setRow ((Below.refl _ _).alloc (Nat.le_refl _) _) (Nat.le_refl _) _⟩
end
section
open Go.RowKit
def iv (E : List Int) : List Value := E.map (Value.int .i64)
theorem iv_len (E : List Int) : (iv E).length = E.length := by simp [iv]
theorem of_below {bE : Option Nat} {w w' : World} (h : Below w.heap.size w w') : w.grownBy w' bE := ⟨h.os, h.tape, h.output, h.size, fun i hi _ => h.block i hi⟩
theorem grown_trans {r : Option Nat} {a b c : World} (h : a.grownBy b r) (k : b.grownBy c r) : a.grownBy c r :=
  ⟨k.os.trans h.os, k.tape.trans h.tape, k.output.trans h.output, Nat.le_trans h.size k.size, fun i hi hn => (k.block i (Nat.lt_of_lt_of_le hi h.size) hn).trans (h.block i hi hn)⟩
theorem grown_set (w : World) (b i : Nat) (v : Value) : w.grownBy (w.setCell ⟨b, i, none⟩ v) (some b) :=
  ⟨rfl, rfl, rfl, by simp [World.setCell], fun k _ hn => Below.heap_setCell w _ v k (fun e => hn (by rw [e]))⟩
structure St (w0 w : World) (A : Option Addr) (cap : Nat) (xs : List Cel) (bv ba bw be bE : Nat) (E : List Int) : Prop where
  below : Below w0.heap.size w0 w
  hv : w.cell? ⟨bv, 0, none⟩ = some (.slice A xs.length cap)
  hk : w.heap[ba]? = some (.cells kindsA 108)
  hw : w.cell? ⟨bw, 0, none⟩ = some (.func (.func 82) #[] #[.pointer (some ⟨bv, 0, none⟩), .pointer (some ⟨ba, 0, none⟩), .pointer (some ⟨bw, 0, none⟩), .pointer (some ⟨be, 0, none⟩)])
  he : w.cell? ⟨be, 0, none⟩ = some (.slice (some ⟨bE, 0, none⟩) xs.length xs.length)
  hE : w.heap[bE]? = some (.cells (iv E).toArray 3)
  len : E.length = xs.length
  b0 : w0.heap.size ≤ bE
  n1 : bv ≠ bE
  n2 : ba ≠ bE
  n3 : bw ≠ bE
  n4 : be ≠ bE
variable {w0 w w' : World} {A : Option Addr} {cap : Nat} {xs : List Cel} {bv ba bw be bE : Nat} {E : List Int}
theorem St.lt (h : St w0 w A cap xs bv ba bw be bE E) : bv < w.heap.size ∧ ba < w.heap.size ∧ bw < w.heap.size ∧ be < w.heap.size ∧ bE < w.heap.size :=
  ⟨World.block_lt_of_cell? w _ h.hv, (Array.getElem?_eq_some_iff.1 h.hk).1, World.block_lt_of_cell? w _ h.hw, World.block_lt_of_cell? w _ h.he, (Array.getElem?_eq_some_iff.1 h.hE).1⟩
theorem St.grow (h : St w0 w A cap xs bv ba bw be bE E) (hb : Below w.heap.size w w') : St w0 w' A cap xs bv ba bw be bE E := by
  obtain ⟨l1, l2, l3, l4, l5⟩ := h.lt
  exact ⟨h.below.trans (hb.mono h.below.size), (hb.cell l1).trans h.hv, (hb.block _ l2).trans h.hk, (hb.cell l3).trans h.hw, (hb.cell l4).trans h.he, (hb.block _ l5).trans h.hE, h.len, h.b0, h.n1, h.n2, h.n3, h.n4⟩
theorem St.set (h : St w0 w A cap xs bv ba bw be bE E) (i : Nat) (v : Int) (_hi : i < xs.length) : St w0 (w.setCell ⟨bE, i, none⟩ (.int .i64 v)) A cap xs bv ba bw be bE (E.set i v) := by
  have hg := grown_set w bE i (.int .i64 v)
  obtain ⟨l1, l2, l3, l4, l5⟩ := h.lt
  refine ⟨h.below.setCell h.b0 _, hg.cell h.hv (by simpa using h.n1), (hg.block _ l2 (by simpa using h.n2)).trans h.hk, hg.cell h.hw (by simpa using h.n3), hg.cell h.he (by simpa using h.n4), ?_, by simp [h.len], h.b0, h.n1, h.n2, h.n3, h.n4⟩
  simp only [World.setCell, Array.getElem?_modify, if_true, h.hE, Option.map_some, Option.some.injEq, Obj.cells.injEq, and_true]
  simp [iv, List.map_set]
theorem St.frozen (h : St w0 w A cap xs bv ba bw be bE E) (i : Nat) : w.frozen? ⟨bE, i, none⟩ = false := by
  simp [World.frozen?, h.hE]
theorem St.ends (h : St w0 w A cap xs bv ba bw be bE E) (i : Nat) (hi : i < xs.length) : w.cell? ⟨bE, i, none⟩ = some (.int .i64 (E.getD i 0)) := by
  have hl : i < E.length := by rw [h.len]; exact hi
  rw [cell_of_row w bE i _ _ (0, 0) h.hE]
  simp [iv, List.getD_eq_getElem?_getD, List.getElem?_eq_getElem hl]
theorem St.kind (h : St w0 w A cap xs bv ba bw be bE E) (i : Nat) : w.cell? ⟨ba, i, none⟩ = kindsA[i]? := cell_of_row w ba i _ _ (0, 0) h.hk
/-- what the closure leaves: below the place nothing has turned; from there to the end each place has its end -/
def Ends (xs : List Cel) (d a : Nat) (E E' : List Int) : Prop :=
  (∀ i, i < a → E'.getD i 0 = E.getD i 0) ∧ ∀ e, bh xs d a = some e → ∀ i, a ≤ i → i < e → ∃ n : Nat, bh xs 16 i = some n ∧ E'.getD i 0 = (n : Int)
abbrev WalkPost (w0 w : World) (A : Option Addr) (cap : Nat) (xs : List Cel) (bv ba bw be bE : Nat) (E : List Int) (d a : Nat) (e : Ending) (w' : World) : Prop :=
  e = .returned (.int .i64 (ans (bh xs d a))) ∧ w.grownBy w' (some bE) ∧ ∃ E', St w0 w' A cap xs bv ba bw be bE E' ∧ Ends xs d a E E'
theorem ends_none {d a : Nat} (h : bh xs d a = none) : Ends xs d a E E := ⟨fun _ _ => rfl, fun e he => by rw [h] at he; cases he⟩
theorem ends_leaf {d a : Nat} (hd : d ≤ 16) (hl : a < E.length) (h : bh xs d a = some (a + 1)) : Ends xs d a E (E.set a ((a : Int) + 1)) := by
  refine ⟨fun i hi => ?_, fun e he i h1 h2 => ?_⟩
  · simp only [List.getD_eq_getElem?_getD]
    rw [List.getElem?_set_ne (by omega)]
  · rw [h] at he
    simp only [Option.some.injEq] at he
    obtain rfl : i = a := by omega
    refine ⟨i + 1, bh_mono xs hd h, ?_⟩
    simp only [List.getD_eq_getElem?_getD]
    rw [List.getElem?_set_self hl]
    simp
end
section
open Go.RowKit
def big (c : Cel) : Bool := decide (300 < c.name.size) || decide (3000 < c.text.size)
def greatC (xs : List Cel) (most : Nat) : Bool := (xs.take most).any big || decide (most < xs.length)
theorem greatC_not {xs : List Cel} {most : Nat} (h : greatC xs most = false) : xs.length ≤ most ∧ ∀ c ∈ xs, c.name.size ≤ 300 ∧ c.text.size ≤ 3000 := by
  unfold greatC at h
  simp only [Bool.or_eq_false_iff, decide_eq_false_iff_not] at h
  have hl : xs.length ≤ most := by omega
  refine ⟨hl, fun c hc => ?_⟩
  rw [List.take_of_length_le hl, List.any_eq_false] at h
  have := h.1 c hc
  unfold big at this
  simp at this
  omega
set_option maxHeartbeats 2000000 in
theorem great_ref {xs : List Cel} (A : Option Addr) (cap most : Nat) (w : World) {B : Nat} (hx : Rd w B A (cv xs)) (_hn : xs.length ≤ maxLen) (hm : most ≤ 1000) :
    Calls Tryz.prog 22 #[.slice A xs.length cap, .int .i64 most] w fun e w' => e = .returned (.bool (greatC xs most)) ∧ w' = w := by
  unfold maxLen at _hn
  obtain ⟨n, hN⟩ : ∃ n, xs.length = n := ⟨_, rfl⟩
  obtain ⟨V, hV⟩ : ∃ V, greatC xs most = V := ⟨_, rfl⟩
  rw [hV]
  have hg1 : ∀ k, k < n → k < most → (∃ h : k < xs.length, big xs[k] = true) → V = true := by
    rintro k h1 h2 ⟨h, hb⟩
    rw [← hV, greatC, Bool.or_eq_true]
    left
    rw [List.any_eq_true]
    exact ⟨xs[k], List.mem_iff_getElem.2 ⟨k, by rw [List.length_take]; omega, by simp⟩, hb⟩
  have hg2 : (∀ k, k < n → k < most → ∀ h : k < xs.length, big xs[k] = false) → V = decide (most < n) := by
    intro h
    rw [← hV, greatC, hN, List.any_eq_false.2, Bool.false_or]
    intro c hc
    obtain ⟨k, hk, rfl⟩ := List.getElem_of_mem hc
    rw [List.length_take] at hk
    rw [List.getElem_take, h k (by omega) (by omega) (by omega)]
    simp
  have G1 := Lib.hid hg1
  have G2 := Lib.hid hg2
  rw [hN] at _hn ⊢
  have HN := Lib.hid hN
  clear hg1 hg2 hV hN
  go_enter Tryz.func22, Tryz.ntmps22
  go_wp2
  go_loopw [5] (fun i wr => ∃ k : Nat, k ≤ n ∧ k ≤ most ∧ i = .int .i64 k ∧ (∀ j, j < k → ∀ h : j < xs.length, big xs[j] = false) ∧ wr = w) (fun i _ => n - (intOf i).toNat)
  case atStart => exact ⟨0, Nat.zero_le _, Nat.zero_le _, rfl, fun j hj => by omega, rfl⟩
  case round =>
    obtain ⟨k, hk, hkm, rfl, hj, rfl⟩ := hrel
    have HJ := Lib.hid hj
    clear hj
    by_cases hlt : k < n
    · by_cases hlm : k < most
      · have hk1 : k < xs.length := by rw [HN.out]; exact hlt
        obtain ⟨b, off, rfl, hbl, _, c1, c2, _⟩ := hx.cel1 (List.getElem?_eq_getElem hk1)
        obtain ⟨x, hxk⟩ : ∃ x, xs[k] = x := ⟨_, rfl⟩
        rw [hxk] at c1 c2
        have HX := Lib.hid hxk
        have hlI : (k : Int) < n := by omega
        have hkI : (k : Int) ≤ 1000 := by omega
        have hd1 : decide ((k : Int) < n) = true := by simp; omega
        have hd2 : decide ((k : Int) < most) = true := by simp; omega
        by_cases h3 : 300 < x.name.size
        · have hv := G1.out k hlt hlm ⟨hk1, by rw [HX.out]; simp [big, h3]⟩
          subst hv
          have h3I : decide ((300 : Int) < x.name.size) = true := by simp; omega
          clear hxk hx
          go_wp2
          go_ret
          exact ⟨rfl, rfl⟩
        · have h3I : decide ((300 : Int) < x.name.size) = false := by simp; omega
          by_cases h4 : 3000 < x.text.size
          · have hv := G1.out k hlt hlm ⟨hk1, by rw [HX.out]; simp [big, h4]⟩
            subst hv
            have h4I : decide ((3000 : Int) < x.text.size) = true := by simp; omega
            clear hxk hx
            go_wp2
            go_ret
            exact ⟨rfl, rfl⟩
          · have h4I : decide ((3000 : Int) < x.text.size) = false := by simp; omega
            have hnot : big xs[k] = false := by rw [HX.out, big, decide_eq_false h3, decide_eq_false h4]; rfl
            have HNOT := Lib.hid hnot
            clear hxk hx hnot
            go_wp2
            go_roundw
            case rel => exact ⟨k + 1, hlt, hlm, by go_num, fun j hj h => by
              by_cases e : j = k
              · subst e; exact HNOT.out
              · exact HJ.out j (by omega) h, trivial⟩
            case measure => simp [intOf]; omega
      · have hv := G2.out (fun j h1 h2 h => HJ.out j (by omega) h)
        subst hv
        have hd1 : decide ((k : Int) < n) = true := by simp; omega
        have hd2 : decide ((k : Int) < most) = false := by simp; omega
        go_wp2
        go_ret
        exact ⟨ret_bool (by simp), rfl⟩
    · have hv := G2.out (fun j h1 h2 h => HJ.out j (by omega) h)
      subst hv
      have hd1 : decide ((k : Int) < n) = false := by simp; omega
      go_wp2
      go_ret
      exact ⟨ret_bool (by simp), rfl⟩
theorem info_cell : (Tryz.prog.info? 47).map (fun i => (i.zero, i.size, i.bytes)) = some (some (.agg #[.int .u8 0, .string ⟨#[]⟩, .string ⟨#[]⟩, .int .i64 0, .int .i64 0]), 5, 56) := by kernel_rfl
theorem twin_ref {xs : List Cel} (A : Option Addr) (cap : Nat) (w : World) {B : Nat} (hx : Rd w B A (cv xs)) (hn : xs.length ≤ 1000000000) :
    Calls Tryz.prog 48 #[.slice A xs.length cap] w fun e w' => ∃ v, e = .returned v ∧ w'.ownsRow w.heap.size 47 5 v xs.length (cv xs) ∧ Below w.heap.size w w' := by
  obtain ⟨i0, hi, hz0, hz1, hz2⟩ := info_parts info_cell
  go_enter Tryz.func48, Tryz.ntmps48
  go_wp2_with (first | (at_builtin; refine wpList_append_rdK _ (by rfl) _ _ _ (by rfl) w.heap.size 47 i0 (.agg #[.int .u8 0, .string ⟨#[]⟩, .string ⟨#[]⟩, .int .i64 0, .int .i64 0]) 5 56 Tryz.underlying26 hi hz0 hz1 hz2 (by rfl) (by decide) (.slice none 0 0) 0 [] (by rfl) (World.ownsRow_nil _ _ _ _) (B := B) A xs.length cap (cv xs) (by rfl) hx (cv_len xs) cv_one (by unfold maxLen; omega) (by omega) (Nat.le_refl _) ?_; intro v2 w2 ho2 hg2 hr2))
  go_ret
  refine ⟨_, rfl, by simpa using ho2, Below.grown (Below.refl _ _) hg2 (Nat.le_refl _) (fun k hk => by cases hk)⟩
theorem eql_nilC (w : World) (a : Option Addr) (n c n' c' : Nat) : (binOp .eql 26 (.slice a n c) (.slice none n' c')).run Tryz.prog w = .ok (.bool a.isNone) w :=
  Lib.run_eql_slice_nil w _ _ a n c n' c' Tryz.underlying26
theorem clone_any {xs : List Cel} (b off cap : Nat) (w : World) {B : Nat} (hx : Rd w B (some ⟨b, off, none⟩) (cv xs)) (hn : xs.length ≤ 1000000000) :
    Calls Tryz.prog 85 #[.slice (some ⟨b, off, none⟩) xs.length cap] w fun e w' => ∃ v, e = .returned v ∧ w'.ownsRow w.heap.size 47 5 v xs.length (cv xs) ∧ Below w.heap.size w w' := by
  obtain ⟨i0, hi, hz0, hz1, hz2⟩ := info_parts info_cell
  have hr : ∀ j u, (cv xs)[j]? = some u → w.cell? ⟨b, off + j, none⟩ = some u := by
    intro j u hj
    obtain ⟨hj', rfl⟩ := List.getElem?_eq_some_iff.1 hj
    obtain ⟨b', off', e, _, hc⟩ := hx.at' hj'
    simp only [Option.some.injEq, Addr.mk.injEq, and_true] at e
    obtain ⟨rfl, rfl⟩ := e
    exact hc j hj'
  have := AnyE.slices_Clone Tryz.cloneL i0 (.agg #[.int .u8 0, .string ⟨#[]⟩, .string ⟨#[]⟩, .int .i64 0, .int .i64 0]) 5 56 hi hz0 hz1 hz2 (by rfl) (by decide) Tryz.sizeOf47 b off xs.length cap (cv xs) w (cv_len xs) (by unfold maxLen; omega) (by omega) hr cv_one
  exact this.mono fun e w' ⟨v, h1, h2, _, h4⟩ => ⟨v, h1, h2, h4⟩
theorem clone_nil (cap : Nat) (w : World) : Calls Tryz.prog 85 #[.slice none 0 cap] w fun e w' => e = .returned (.slice none 0 0) ∧ w' = w :=
  AnyE.slices_Clone_nil Tryz.cloneL 0 cap w
end
section
open Go.RowKit
variable {w0 w w' : World} {A : Option Addr} {cap : Nat} {xs : List Cel} {bv ba bw be bE : Nat} {E : List Int}
theorem new3 (w w1 : World) (a b c : Value) (t : TypeId) (hb : Below (w.alloc (.cells #[a, b, c] t)).heap.size (w.alloc (.cells #[a, b, c] t)) w1) :
    w1.cell? ⟨w.heap.size, 0, none⟩ = some a ∧ w1.cell? ⟨w.heap.size, 1, none⟩ = some b ∧ w1.cell? ⟨w.heap.size, 2, none⟩ = some c := by
  have h : ∀ o, w1.cell? ⟨w.heap.size, o, none⟩ = (w.alloc (.cells #[a, b, c] t)).cell? ⟨w.heap.size, o, none⟩ := fun o => hb.cell (by simp)
  rw [h, h, h]
  refine ⟨?_, ?_, ?_⟩ <;> (simp only [World.cell?, heap_alloc_new]; rfl)
def two (w : World) (k : Int) (nm tx : ByteArray) (num many : Int) (f g n : Value) : World := (w.alloc (.cells #[.int .u8 k, .string nm, .string tx, .int .i64 num, .int .i64 many] 47)).alloc (.cells #[f, g, n] 107)
/-- the two new blocks -/
structure Two (w W : World) (k : Int) (nm tx : ByteArray) (num many : Int) (f g n : Value) : Prop where
  below : Below w.heap.size w W
  size : w.heap.size + 1 < W.heap.size
  z0 : W.cell? ⟨w.heap.size, 0, none⟩ = some (.int .u8 k)
  z1 : W.cell? ⟨w.heap.size, 1, none⟩ = some (.string nm)
  z2 : W.cell? ⟨w.heap.size, 2, none⟩ = some (.string tx)
  z3 : W.cell? ⟨w.heap.size, 3, none⟩ = some (.int .i64 num)
  z4 : W.cell? ⟨w.heap.size, 4, none⟩ = some (.int .i64 many)
  y0 : W.cell? ⟨w.heap.size + 1, 0, none⟩ = some f
  y1 : W.cell? ⟨w.heap.size + 1, 1, none⟩ = some g
  y2 : W.cell? ⟨w.heap.size + 1, 2, none⟩ = some n
theorem Two.new (w : World) (k : Int) (nm tx : ByteArray) (num many : Int) (f g n : Value) : Two w (two w k nm tx num many f g n) k nm tx num many f g n := by
  unfold two
  have hs : (w.alloc (.cells #[.int .u8 k, .string nm, .string tx, .int .i64 num, .int .i64 many] 47)).heap.size = w.heap.size + 1 := by simp
  obtain ⟨z0, z1, z2, z3, z4⟩ := new5 w ((w.alloc (.cells #[.int .u8 k, .string nm, .string tx, .int .i64 num, .int .i64 many] 47)).alloc (.cells #[f, g, n] 107)) (.int .u8 k) (.string nm) (.string tx) (.int .i64 num) (.int .i64 many) 47 ((Below.refl _ _).alloc (Nat.le_refl _) _)
  obtain ⟨y0, y1, y2⟩ := new3 (w.alloc (.cells #[.int .u8 k, .string nm, .string tx, .int .i64 num, .int .i64 many] 47)) ((w.alloc (.cells #[.int .u8 k, .string nm, .string tx, .int .i64 num, .int .i64 many] 47)).alloc (.cells #[f, g, n] 107)) f g n 107 (Below.refl _ _)
  rw [hs] at y0 y1 y2
  exact ⟨((Below.refl _ _).alloc (Nat.le_refl _) _).alloc (by simp) _, by simp, z0, z1, z2, z3, z4, y0, y1, y2⟩
theorem Two.grow {W W' : World} {k : Int} {nm tx : ByteArray} {num many : Int} {f g n : Value} (h : Two w W k nm tx num many f g n) (hb : Below W.heap.size W W') : Two w W' k nm tx num many f g n := by
  have hs := h.size
  have c0 : ∀ o, W'.cell? ⟨w.heap.size, o, none⟩ = W.cell? ⟨w.heap.size, o, none⟩ := fun o => hb.cell (by show w.heap.size < _; omega)
  have c1 : ∀ o, W'.cell? ⟨w.heap.size + 1, o, none⟩ = W.cell? ⟨w.heap.size + 1, o, none⟩ := fun o => hb.cell (by show w.heap.size + 1 < _; omega)
  exact ⟨h.below.trans (hb.mono h.below.size), by have := hb.size; omega, (c0 _).trans h.z0, (c0 _).trans h.z1, (c0 _).trans h.z2, (c0 _).trans h.z3, (c0 _).trans h.z4, (c1 _).trans h.y0, (c1 _).trans h.y1, (c1 _).trans h.y2⟩
end
end Go.Proofs.YtcgioepbooafcaaGreatDoor
