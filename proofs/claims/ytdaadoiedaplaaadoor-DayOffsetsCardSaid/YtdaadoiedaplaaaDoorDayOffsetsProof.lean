/- DayOffsets: what is told with another offset is the same time. Conditions: none. -/
import Derived.Test.YtdaadoiedaplaaaDoorRows
import Derived.Test.YtdaadoiedaplaaaDoorBackPlain2
import Derived.Test.YtdaadoiedaplaaaDoorTie
import Derived.Test.YtdaadoiedaplaaaDoorCards
import Derived.ProofKit
import Derived.OpenShut
import Derived.LaidMore
import Derived.Lay
import Derived.Lib.LaidU8
import Derived.Lib.LaidTab
import Derived.SevenTiedAt
import Derived.Stop.Joined
import Derived.PinnedBridge
namespace Go.Proofs.YtdaadoiedaplaaaDoor.dayOffsets
open Go.RowKit Go.Lib
theorem bcell {w w' : World} (hb : Below w.heap.size w w') {a : Addr} {v : Value} (h : w.cell? a = some v) : w'.cell? a = some v :=
  (World.cell?_of_block (hb.block a.block (World.block_lt_of_cell? _ _ h))).trans h
def five (h m : Nat) : List UInt8 := [UInt8.ofNat (48 + h / 10), UInt8.ofNat (48 + h % 10), 58, UInt8.ofNat (48 + m / 10), UInt8.ofNat (48 + m % 10)]
theorem five_eq (h m : Nat) (hh : h ≤ 23) (hm : m ≤ 59) : five h m = dg h 2 ++ 58 :: dg m 2 := by
  simp only [dg, List.nil_append, List.cons_append]
  rw [show h / 10 % 10 = h / 10 by omega, show m / 10 % 10 = m / 10 by omega]
  rfl
theorem u8c (k : Nat) (h : k < 10) : ((UInt8.ofNat (48 + k)).toNat : Int) = 48 + (k : Int) := by
  rw [u8_48 k h]; omega
theorem conv5 (W : World) (h m : Nat) (hh : h ≤ 23) (hm : m ≤ 59) :
    (convert 45 9 (.slice (some ⟨W.heap.size, 0, none⟩) 5 5)).run Tryd.prog (W.alloc (.cells #[.int .u8 (48 + (h : Int) / 10), .int .u8 (48 + (h : Int) % 10), .int .u8 58, .int .u8 (48 + (m : Int) / 10), .int .u8 (48 + (m : Int) % 10)] 5)) =
      .ok (.string ⟨(five h m).toArray⟩) (W.alloc (.cells #[.int .u8 (48 + (h : Int) / 10), .int .u8 (48 + (h : Int) % 10), .int .u8 58, .int .u8 (48 + (m : Int) / 10), .int .u8 (48 + (m : Int) % 10)] 5)) := by
  refine run_convert_bytes_back (P := Tryd.prog) _ 45 9 5 ⟨W.heap.size, 0, none⟩ 5 (five h m) Tryd.underlying45 Tryd.underlying5 Tryd.underlying9 (fun j hj => ?_)
  have e1 := u8c (h / 10) (by omega)
  have e2 := u8c (h % 10) (by omega)
  have e3 := u8c (m / 10) (by omega)
  have e4 := u8c (m % 10) (by omega)
  have hadd : (⟨W.heap.size, 0, none⟩ : Addr).add j = ⟨W.heap.size, j, none⟩ := by unfold Addr.add; split <;> simp_all
  rw [hadd, World.cell?_alloc_at _ _ _ _ rfl]
  have hj5 : j = 0 ∨ j = 1 ∨ j = 2 ∨ j = 3 ∨ j = 4 := by
    have : j < 5 := hj
    omega
  rcases hj5 with rfl | rfl | rfl | rfl | rfl
  · show some (Value.int .u8 (48 + (h : Int) / 10)) = some (.int .u8 ((UInt8.ofNat (48 + h / 10)).toNat : Int)); rw [e1]; rfl
  · show some (Value.int .u8 (48 + (h : Int) % 10)) = some (.int .u8 ((UInt8.ofNat (48 + h % 10)).toNat : Int)); rw [e2]; rfl
  · rfl
  · show some (Value.int .u8 (48 + (m : Int) / 10)) = some (.int .u8 ((UInt8.ofNat (48 + m / 10)).toNat : Int)); rw [e3]; rfl
  · show some (Value.int .u8 (48 + (m : Int) % 10)) = some (.int .u8 ((UInt8.ofNat (48 + m % 10)).toNat : Int)); rw [e4]; rfl
theorem acell {w : World} {a : Addr} {v : Value} (h : w.cell? a = some v) (o : Obj) : (w.alloc o).cell? a = some v := bcell (bAl w o) h
def offO (h m : Nat) (z : UInt8) : Int := if z = 45 then -(3600 * (h : Int) + 60 * m) else 3600 * (h : Int) + 60 * m
theorem parse_off (a n : Int) (h m : Nat) (z : UInt8) (hz : z = 43 ∨ z = 45) (hh : h ≤ 23) (hm : m ≤ 59) (hok : okD a n = true) (X : List UInt8) (hX : textL a n = X ++ [90]) :
    parseP (X ++ z :: five h m) = if okD (a - offO h m z) n = true then some (a - offO h m z, n) else none := by
  obtain ⟨y, mo, d, hy, hmo, hd, hdim, hs, _, _, _, _, _, hp⟩ := parse_head a n hok (z :: five h m) ⟨z, five h m, rfl, by rcases hz with rfl | rfl <;> decide, by rcases hz with rfl | rfl <;> decide⟩
  unfold textL at hX
  rw [hy, hmo, hd] at hX
  have hX2 := List.append_cancel_right hX
  rw [← hX2, hp]
  unfold k12
  rw [mark_cons _ _ _ (by rcases hz with rfl | rfl <;> decide)]
  simp only [Option.bind_some]
  have hok2 := hok
  unfold okD at hok2
  rw [decide_eq_true_iff] at hok2
  obtain ⟨s0, s1, n0, n1⟩ := hok2
  have hz2 : z.toNat = 43 ∨ z.toNat = 45 := by rcases hz with rfl | rfl <;> decide
  rw [kO0_off _ _ _ _ _ _ _ _ hz2, five_eq h m hh hm]
  dsimp only
  rw [num_dg h 2 0 23 _ (by omega) (by omega) hh]
  simp only [Option.bind_some]
  unfold kO1
  rw [mark_cons _ _ _ (by decide)]
  simp only [Option.bind_some]
  unfold kO2
  have hn := num_dg m 2 0 59 [] (by omega) (by omega) hm
  rw [List.append_nil] at hn
  rw [hn]
  simp only [Option.bind_some]
  have hnn : ((n.toNat : Nat) : Int) = n := by omega
  have hsec : secD y mo d ((a % 86400).toNat / 3600) ((a % 86400).toNat / 60 % 60) ((a % 86400).toNat % 60) (if z.toNat = 45 then -(60 * (h : Int) + m) else 60 * (h : Int) + m) = a - offO h m z := by
    unfold secD offO
    rw [hs]
    unfold dayOf
    rcases hz with rfl | rfl
    · rw [if_neg (by decide), if_neg (by decide)]; omega
    · rw [if_pos (by decide), if_pos (by decide)]; omega
  unfold kFin
  rw [hsec, hnn]
  by_cases hk : okD (a - offO h m z) n = true
  · rw [if_pos ⟨rfl, hdim, hk⟩, if_pos hk]
  · rw [if_neg (fun e => hk e.2.2), if_neg hk]
theorem text_bytes (a n : Int) (h m : Nat) (z : UInt8) (X : List UInt8) (hX : textL a n = X ++ [90]) (t : ByteArray) (ht : t = ⟨(textL a n).toArray⟩) :
    (t.extract 0 (t.size - 1) ++ ((⟨#[z]⟩ : ByteArray) ++ ⟨(five h m).toArray⟩)).data.toList = X ++ z :: five h m := by
  subst ht
  have hsz : (⟨(textL a n).toArray⟩ : ByteArray).size = X.length + 1 := by
    show (textL a n).toArray.size = _
    rw [List.size_toArray, hX]; simp
  rw [hsz]
  simp [ByteArray.data_append, ByteArray.data_extract, hX]
theorem text_end (a n : Int) : ∃ X, textL a n = X ++ [90] := ⟨_, rfl⟩
theorem pre_len (a n : Int) : (⟨(textL a n).toArray⟩ : ByteArray).size ≤ 31 ∧ 1 ≤ (⟨(textL a n).toArray⟩ : ByteArray).size := by
  have h := text_len a n
  have h2 : (fracL n.toNat).length ≤ 10 := by
    unfold fracL
    split
    · obtain ⟨j, hj⟩ := trimR_app (dg n.toNat 9) 48
      have := congrArg List.length hj
      rw [dg_len, List.length_append] at this
      simp only [List.length_append, List.length_cons, List.length_nil]
      omega
    · simp
  show (textL a n).toArray.size ≤ _ ∧ 1 ≤ (textL a n).toArray.size
  rw [List.size_toArray, h]
  omega
set_option maxHeartbeats 4000000 in
set_option maxRecDepth 100000 in
theorem walk_falseA (a n : Int) (h m : Nat) (w : World) (hP : Pow w) (t : ByteArray) (hh : h ≤ 23) (hm : m ≤ 59) (a0 : 0 ≤ a) (a1 : a ≤ 315569519999) (g1 : 0 ≤ a - (3600 * (h : Int) + 60 * (m : Int))) (g2 : a - (3600 * (h : Int) + 60 * (m : Int)) ≤ 315569519999)
    (hx : ∀ W, Pow W → Calls Tryd.prog 12 #[.agg #[.int .i64 a, .int .i64 n]] W fun e w' => e = .returned (.tuple #[.string t, .int .i64 0]) ∧ Below W.heap.size W w') (ht : 1 ≤ t.size) (ht2 : t.size ≤ 31)
    (hq : ∀ W, Calls Tryd.prog 10 #[.string (t.extract 0 (t.size - 1) ++ ((⟨#[43]⟩ : ByteArray) ++ ⟨(five h m).toArray⟩))] W fun e w' => e = .returned (.tuple #[.agg #[.int .i64 (a - (3600 * (h : Int) + 60 * (m : Int))), .int .i64 n], .int .i64 0]) ∧ Below W.heap.size W w') :
    Calls Tryd.prog 7 #[.agg #[.int .i64 a, .int .i64 n], .int .u8 h, .int .u8 m, .bool false] w fun e w' => e = .returned (.bool true) ∧ Below w.heap.size w w' := by
  have HX := Lib.hid hx
  have HQ := Lib.hid hq
  clear hx hq
  have hs0 : (five h m).length = 5 := rfl
  have hs1 : ¬ 9223372036854775807 < 1 + (five h m).length := by omega
  have hs2 : ¬ 9223372036854775807 < t.size - 1 + (1 + (five h m).length) := by omega
  clear hs0
  go_enter Tryd.func7, Tryd.ntmps7
  go_wp2_with fail
  refine (alive_any _ (hP.below (bAl _ _))).mono ?_
  rintro e w1 ⟨rfl, hb⟩
  obtain ⟨c0, c1⟩ := day_cells _ _ _ _ hb
  have HP1 := Lib.hid ((hP.below (bAl _ _)).below hb)
  have HB1 := Lib.hid (bt (bAl w (.cells #[.int .i64 a, .int .i64 n] 23)) (bAl w (.cells #[.int .i64 a, .int .i64 n] 23)).size hb)
  clear hb hP
  go_wp2_with fail
  refine (HX.out _ HP1.out).mono ?_
  rintro e w2 ⟨rfl, hb⟩
  replace c0 := bcell hb c0
  replace c1 := bcell hb c1
  have HB2 := Lib.hid (bt HB1.out HB1.out.size hb)
  clear hb HB1 HP1
  go_wp2_with fail
  rw [conv5 _ h m hh hm]
  go_wp2_with fail
  refine (HQ.out _).mono ?_
  rintro e w3 ⟨rfl, hb⟩
  replace c0 := bcell hb (acell c0 _)
  replace c1 := bcell hb (acell c1 _)
  have HB3 := Lib.hid (bt (bt (bt HB2.out HB2.out.size (bAl w2 _)) (bt HB2.out HB2.out.size (bAl w2 _)).size hb) (bt (bt HB2.out HB2.out.size (bAl w2 _)) (bt HB2.out HB2.out.size (bAl w2 _)).size hb).size (bAl w3 (.cells #[.int .i64 (a - (3600 * (h : Int) + 60 * (m : Int))), .int .i64 (n)] 23)))
  replace c0 := acell c0 (.cells #[.int .i64 (a - (3600 * (h : Int) + 60 * (m : Int))), .int .i64 (n)] 23)
  replace c1 := acell c1 (.cells #[.int .i64 (a - (3600 * (h : Int) + 60 * (m : Int))), .int .i64 (n)] 23)
  clear hb HB2
  go_wp2_with fail
  go_ret
  exact ⟨ret_bool (by simp), HB3.out⟩
set_option maxHeartbeats 4000000 in
set_option maxRecDepth 100000 in
theorem walk_falseB (a n : Int) (h m : Nat) (w : World) (hP : Pow w) (t : ByteArray) (hh : h ≤ 23) (hm : m ≤ 59) (a0 : 0 ≤ a) (a1 : a ≤ 315569519999) (g1 : a - (3600 * (h : Int) + 60 * (m : Int)) < 0)
    (hx : ∀ W, Pow W → Calls Tryd.prog 12 #[.agg #[.int .i64 a, .int .i64 n]] W fun e w' => e = .returned (.tuple #[.string t, .int .i64 0]) ∧ Below W.heap.size W w') (ht : 1 ≤ t.size) (ht2 : t.size ≤ 31)
    (hq : ∀ W, Calls Tryd.prog 10 #[.string (t.extract 0 (t.size - 1) ++ ((⟨#[43]⟩ : ByteArray) ++ ⟨(five h m).toArray⟩))] W fun e w' => e = .returned (.tuple #[.agg #[.int .i64 0, .int .i64 0], .int .i64 120]) ∧ Below W.heap.size W w') :
    Calls Tryd.prog 7 #[.agg #[.int .i64 a, .int .i64 n], .int .u8 h, .int .u8 m, .bool false] w fun e w' => e = .returned (.bool true) ∧ Below w.heap.size w w' := by
  have HX := Lib.hid hx
  have HQ := Lib.hid hq
  clear hx hq
  have hs0 : (five h m).length = 5 := rfl
  have hs1 : ¬ 9223372036854775807 < 1 + (five h m).length := by omega
  have hs2 : ¬ 9223372036854775807 < t.size - 1 + (1 + (five h m).length) := by omega
  clear hs0
  go_enter Tryd.func7, Tryd.ntmps7
  go_wp2_with fail
  refine (alive_any _ (hP.below (bAl _ _))).mono ?_
  rintro e w1 ⟨rfl, hb⟩
  obtain ⟨c0, c1⟩ := day_cells _ _ _ _ hb
  have HP1 := Lib.hid ((hP.below (bAl _ _)).below hb)
  have HB1 := Lib.hid (bt (bAl w (.cells #[.int .i64 a, .int .i64 n] 23)) (bAl w (.cells #[.int .i64 a, .int .i64 n] 23)).size hb)
  clear hb hP
  go_wp2_with fail
  refine (HX.out _ HP1.out).mono ?_
  rintro e w2 ⟨rfl, hb⟩
  replace c0 := bcell hb c0
  replace c1 := bcell hb c1
  have HB2 := Lib.hid (bt HB1.out HB1.out.size hb)
  clear hb HB1 HP1
  go_wp2_with fail
  rw [conv5 _ h m hh hm]
  go_wp2_with fail
  refine (HQ.out _).mono ?_
  rintro e w3 ⟨rfl, hb⟩
  replace c0 := bcell hb (acell c0 _)
  replace c1 := bcell hb (acell c1 _)
  have HB3 := Lib.hid (bt (bt (bt HB2.out HB2.out.size (bAl w2 _)) (bt HB2.out HB2.out.size (bAl w2 _)).size hb) (bt (bt HB2.out HB2.out.size (bAl w2 _)) (bt HB2.out HB2.out.size (bAl w2 _)).size hb).size (bAl w3 (.cells #[.int .i64 (0), .int .i64 (0)] 23)))
  replace c0 := acell c0 (.cells #[.int .i64 (0), .int .i64 (0)] 23)
  replace c1 := acell c1 (.cells #[.int .i64 (0), .int .i64 (0)] 23)
  clear hb HB2
  go_wp2_with fail
  go_ret
  exact ⟨ret_bool (by simp), HB3.out⟩
set_option maxHeartbeats 4000000 in
set_option maxRecDepth 100000 in
theorem walk_trueA (a n : Int) (h m : Nat) (w : World) (hP : Pow w) (t : ByteArray) (hh : h ≤ 23) (hm : m ≤ 59) (a0 : 0 ≤ a) (a1 : a ≤ 315569519999) (g1 : 0 ≤ a + (3600 * (h : Int) + 60 * (m : Int))) (g2 : a + (3600 * (h : Int) + 60 * (m : Int)) ≤ 315569519999)
    (hx : ∀ W, Pow W → Calls Tryd.prog 12 #[.agg #[.int .i64 a, .int .i64 n]] W fun e w' => e = .returned (.tuple #[.string t, .int .i64 0]) ∧ Below W.heap.size W w') (ht : 1 ≤ t.size) (ht2 : t.size ≤ 31)
    (hq : ∀ W, Calls Tryd.prog 10 #[.string (t.extract 0 (t.size - 1) ++ ((⟨#[45]⟩ : ByteArray) ++ ⟨(five h m).toArray⟩))] W fun e w' => e = .returned (.tuple #[.agg #[.int .i64 (a + (3600 * (h : Int) + 60 * (m : Int))), .int .i64 n], .int .i64 0]) ∧ Below W.heap.size W w') :
    Calls Tryd.prog 7 #[.agg #[.int .i64 a, .int .i64 n], .int .u8 h, .int .u8 m, .bool true] w fun e w' => e = .returned (.bool true) ∧ Below w.heap.size w w' := by
  have HX := Lib.hid hx
  have HQ := Lib.hid hq
  clear hx hq
  have hs0 : (five h m).length = 5 := rfl
  have hs1 : ¬ 9223372036854775807 < 1 + (five h m).length := by omega
  have hs2 : ¬ 9223372036854775807 < t.size - 1 + (1 + (five h m).length) := by omega
  clear hs0
  go_enter Tryd.func7, Tryd.ntmps7
  go_wp2_with fail
  refine (alive_any _ (hP.below (bAl _ _))).mono ?_
  rintro e w1 ⟨rfl, hb⟩
  obtain ⟨c0, c1⟩ := day_cells _ _ _ _ hb
  have HP1 := Lib.hid ((hP.below (bAl _ _)).below hb)
  have HB1 := Lib.hid (bt (bAl w (.cells #[.int .i64 a, .int .i64 n] 23)) (bAl w (.cells #[.int .i64 a, .int .i64 n] 23)).size hb)
  clear hb hP
  go_wp2_with fail
  refine (HX.out _ HP1.out).mono ?_
  rintro e w2 ⟨rfl, hb⟩
  replace c0 := bcell hb c0
  replace c1 := bcell hb c1
  have HB2 := Lib.hid (bt HB1.out HB1.out.size hb)
  clear hb HB1 HP1
  go_wp2_with fail
  rw [conv5 _ h m hh hm]
  go_wp2_with fail
  refine (HQ.out _).mono ?_
  rintro e w3 ⟨rfl, hb⟩
  replace c0 := bcell hb (acell c0 _)
  replace c1 := bcell hb (acell c1 _)
  have HB3 := Lib.hid (bt (bt (bt HB2.out HB2.out.size (bAl w2 _)) (bt HB2.out HB2.out.size (bAl w2 _)).size hb) (bt (bt HB2.out HB2.out.size (bAl w2 _)) (bt HB2.out HB2.out.size (bAl w2 _)).size hb).size (bAl w3 (.cells #[.int .i64 (a + (3600 * (h : Int) + 60 * (m : Int))), .int .i64 (n)] 23)))
  replace c0 := acell c0 (.cells #[.int .i64 (a + (3600 * (h : Int) + 60 * (m : Int))), .int .i64 (n)] 23)
  replace c1 := acell c1 (.cells #[.int .i64 (a + (3600 * (h : Int) + 60 * (m : Int))), .int .i64 (n)] 23)
  clear hb HB2
  go_wp2_with fail
  go_ret
  exact ⟨ret_bool (by simp), HB3.out⟩
set_option maxHeartbeats 4000000 in
set_option maxRecDepth 100000 in
theorem walk_trueC (a n : Int) (h m : Nat) (w : World) (hP : Pow w) (t : ByteArray) (hh : h ≤ 23) (hm : m ≤ 59) (a0 : 0 ≤ a) (a1 : a ≤ 315569519999) (g1 : 0 ≤ a + (3600 * (h : Int) + 60 * (m : Int))) (g2 : 315569519999 < a + (3600 * (h : Int) + 60 * (m : Int)))
    (hx : ∀ W, Pow W → Calls Tryd.prog 12 #[.agg #[.int .i64 a, .int .i64 n]] W fun e w' => e = .returned (.tuple #[.string t, .int .i64 0]) ∧ Below W.heap.size W w') (ht : 1 ≤ t.size) (ht2 : t.size ≤ 31)
    (hq : ∀ W, Calls Tryd.prog 10 #[.string (t.extract 0 (t.size - 1) ++ ((⟨#[45]⟩ : ByteArray) ++ ⟨(five h m).toArray⟩))] W fun e w' => e = .returned (.tuple #[.agg #[.int .i64 0, .int .i64 0], .int .i64 120]) ∧ Below W.heap.size W w') :
    Calls Tryd.prog 7 #[.agg #[.int .i64 a, .int .i64 n], .int .u8 h, .int .u8 m, .bool true] w fun e w' => e = .returned (.bool true) ∧ Below w.heap.size w w' := by
  have HX := Lib.hid hx
  have HQ := Lib.hid hq
  clear hx hq
  have hs0 : (five h m).length = 5 := rfl
  have hs1 : ¬ 9223372036854775807 < 1 + (five h m).length := by omega
  have hs2 : ¬ 9223372036854775807 < t.size - 1 + (1 + (five h m).length) := by omega
  clear hs0
  go_enter Tryd.func7, Tryd.ntmps7
  go_wp2_with fail
  refine (alive_any _ (hP.below (bAl _ _))).mono ?_
  rintro e w1 ⟨rfl, hb⟩
  obtain ⟨c0, c1⟩ := day_cells _ _ _ _ hb
  have HP1 := Lib.hid ((hP.below (bAl _ _)).below hb)
  have HB1 := Lib.hid (bt (bAl w (.cells #[.int .i64 a, .int .i64 n] 23)) (bAl w (.cells #[.int .i64 a, .int .i64 n] 23)).size hb)
  clear hb hP
  go_wp2_with fail
  refine (HX.out _ HP1.out).mono ?_
  rintro e w2 ⟨rfl, hb⟩
  replace c0 := bcell hb c0
  replace c1 := bcell hb c1
  have HB2 := Lib.hid (bt HB1.out HB1.out.size hb)
  clear hb HB1 HP1
  go_wp2_with fail
  rw [conv5 _ h m hh hm]
  go_wp2_with fail
  refine (HQ.out _).mono ?_
  rintro e w3 ⟨rfl, hb⟩
  replace c0 := bcell hb (acell c0 _)
  replace c1 := bcell hb (acell c1 _)
  have HB3 := Lib.hid (bt (bt (bt HB2.out HB2.out.size (bAl w2 _)) (bt HB2.out HB2.out.size (bAl w2 _)).size hb) (bt (bt HB2.out HB2.out.size (bAl w2 _)) (bt HB2.out HB2.out.size (bAl w2 _)).size hb).size (bAl w3 (.cells #[.int .i64 (0), .int .i64 (0)] 23)))
  replace c0 := acell c0 (.cells #[.int .i64 (0), .int .i64 (0)] 23)
  replace c1 := acell c1 (.cells #[.int .i64 (0), .int .i64 (0)] 23)
  clear hb HB2
  go_wp2_with fail
  go_ret
  exact ⟨ret_bool (by simp), HB3.out⟩
theorem walk_err (a n : Int) (h m : Int) (k : Bool) (w : World) (hP : Pow w) (hok : okD a n = false) :
    Calls Tryd.prog 7 #[.agg #[.int .i64 a, .int .i64 n], .int .u8 h, .int .u8 m, .bool k] w fun e w' => e = .returned (.bool true) ∧ Below w.heap.size w w' := by
  have hx := fun W h => text_any a n W h
  have hv : TextV a n = .tuple #[.string ⟨#[]⟩, .int .i64 120] := if_neg (by rw [hok]; decide)
  rw [hv] at hx
  clear hv hok
  go_enter Tryd.func7, Tryd.ntmps7
  go_wp2_with fail
  refine (alive_any _ (hP.below (bAl _ _))).mono ?_
  rintro e w1 ⟨rfl, hb⟩
  obtain ⟨c0, c1⟩ := day_cells _ _ _ _ hb
  have HP1 := Lib.hid ((hP.below (bAl _ _)).below hb)
  have HB1 := Lib.hid (bt (bAl w (.cells #[.int .i64 a, .int .i64 n] 23)) (bAl w (.cells #[.int .i64 a, .int .i64 n] 23)).size hb)
  clear hb hP
  go_wp2_with fail
  refine (hx _ HP1.out).mono ?_
  rintro e w2 ⟨rfl, hb⟩
  have HB2 := Lib.hid (bt HB1.out HB1.out.size hb)
  clear hb HB1 HP1
  go_wp2_with fail
  go_ret
  exact ⟨rfl, HB2.out⟩
set_option maxHeartbeats 4000000 in
theorem walk_out (a n : Int) (h m : Int) (k : Bool) (w : World) (hP : Pow w) (hok : okD a n = true) (hb0 : 23 < h ∨ h ≤ 23 ∧ 59 < m) :
    Calls Tryd.prog 7 #[.agg #[.int .i64 a, .int .i64 n], .int .u8 h, .int .u8 m, .bool k] w fun e w' => e = .returned (.bool true) ∧ Below w.heap.size w w' := by
  have hx := fun W h => text_any a n W h
  have hv : TextV a n = .tuple #[.string ⟨(textL a n).toArray⟩, .int .i64 0] := if_pos hok
  rw [hv] at hx
  generalize (⟨(textL a n).toArray⟩ : ByteArray) = t at *
  clear hv hok
  go_enter Tryd.func7, Tryd.ntmps7
  go_wp2_with fail
  refine (alive_any _ (hP.below (bAl _ _))).mono ?_
  rintro e w1 ⟨rfl, hb⟩
  obtain ⟨c0, c1⟩ := day_cells _ _ _ _ hb
  have HP1 := Lib.hid ((hP.below (bAl _ _)).below hb)
  have HB1 := Lib.hid (bt (bAl w (.cells #[.int .i64 a, .int .i64 n] 23)) (bAl w (.cells #[.int .i64 a, .int .i64 n] 23)).size hb)
  clear hb hP
  go_wp2_with fail
  refine (hx _ HP1.out).mono ?_
  rintro e w2 ⟨rfl, hb⟩
  have HB2 := Lib.hid (bt HB1.out HB1.out.size hb)
  clear hb HB1 HP1
  rcases hb0 with g | ⟨g1, g⟩
  · go_wp2_with fail
    go_ret
    exact ⟨rfl, HB2.out⟩
  · go_wp2_with fail
    go_ret
    exact ⟨rfl, HB2.out⟩
theorem walk (a n : Int) (h m : Int) (k : Bool) (w : World) (hP : Pow w) (hb1 : 0 ≤ h ∧ h < 256) (hb2 : 0 ≤ m ∧ m < 256) :
    Calls Tryd.prog 7 #[.agg #[.int .i64 a, .int .i64 n], .int .u8 h, .int .u8 m, .bool k] w fun e w' => e = .returned (.bool true) ∧ Below w.heap.size w w' := by
  cases hok : okD a n
  · exact walk_err a n h m k w hP hok
  · by_cases hh : 23 < h
    · exact walk_out a n h m k w hP hok (.inl hh)
    · by_cases hm : 59 < m
      · exact walk_out a n h m k w hP hok (.inr ⟨by omega, hm⟩)
      · obtain ⟨h, rfl⟩ := Int.eq_ofNat_of_zero_le hb1.1
        obtain ⟨m, rfl⟩ := Int.eq_ofNat_of_zero_le hb2.1
        have hx := fun W h => text_any a n W h
        have hv : TextV a n = .tuple #[.string ⟨(textL a n).toArray⟩, .int .i64 0] := if_pos hok
        rw [hv] at hx
        obtain ⟨X, hX⟩ := text_end a n
        obtain ⟨l1, l2⟩ := pre_len a n
        have hr := hok
        unfold okD at hr
        rw [decide_eq_true_iff] at hr
        obtain ⟨a0, a1, n0, n1⟩ := hr
        have hsz : ∀ z : UInt8, ((⟨(textL a n).toArray⟩ : ByteArray).extract 0 ((⟨(textL a n).toArray⟩ : ByteArray).size - 1) ++ ((⟨#[z]⟩ : ByteArray) ++ ⟨(five h m).toArray⟩)).size ≤ maxLen := by
          intro z
          rw [← ba_len, text_bytes a n h m z X hX _ rfl, List.length_append, List.length_cons, show (five h m).length = 5 from rfl]
          have : (⟨(textL a n).toArray⟩ : ByteArray).size = X.length + 1 := by
            show (textL a n).toArray.size = _
            rw [List.size_toArray, hX]; simp
          unfold maxLen
          omega
        have hpv : ∀ z : UInt8, z = 43 ∨ z = 45 → ParseV ((⟨(textL a n).toArray⟩ : ByteArray).extract 0 ((⟨(textL a n).toArray⟩ : ByteArray).size - 1) ++ ((⟨#[z]⟩ : ByteArray) ++ ⟨(five h m).toArray⟩)) = pv (if okD (a - offO h m z) n = true then some (a - offO h m z, n) else none) := by
          intro z hz
          unfold ParseV
          rw [text_bytes a n h m z X hX _ rfl, parse_off a n h m z hz (by omega) (by omega) hok X hX]
        have hq : ∀ z : UInt8, z = 43 ∨ z = 45 → ∀ W, Calls Tryd.prog 10 #[.string ((⟨(textL a n).toArray⟩ : ByteArray).extract 0 ((⟨(textL a n).toArray⟩ : ByteArray).size - 1) ++ ((⟨#[z]⟩ : ByteArray) ++ ⟨(five h m).toArray⟩))] W fun e w' => e = .returned (pv (if okD (a - offO h m z) n = true then some (a - offO h m z, n) else none)) ∧ Below W.heap.size W w' := by
          intro z hz W
          have := parse_any _ W (hsz z)
          rw [hpv z hz] at this
          exact this
        have hcase : ∀ S : Int, okD S n = true ∧ (0 ≤ S ∧ S ≤ 315569519999) ∨ okD S n = false ∧ S < 0 ∨ okD S n = false ∧ (0 ≤ S ∧ 315569519999 < S) := by
          intro S
          unfold okD
          by_cases h1 : 0 ≤ S
          · by_cases h2 : S ≤ 315569519999
            · left; simp; omega
            · right; right; simp; omega
          · right; left; simp; omega
        cases k
        · have q := hq 43 (.inl rfl)
          rw [show offO h m 43 = 3600 * (h : Int) + 60 * m from if_neg (by decide)] at q
          rcases hcase (a - (3600 * (h : Int) + 60 * m)) with ⟨g, g1, g2⟩ | ⟨g, g1⟩ | ⟨g, g1, g2⟩
          · rw [if_pos g] at q
            exact walk_falseA a n h m w hP _ (by omega) (by omega) a0 a1 g1 g2 hx l2 l1 q
          · rw [if_neg (by rw [g]; decide)] at q
            exact walk_falseB a n h m w hP _ (by omega) (by omega) a0 a1 g1 hx l2 l1 q
          · rw [if_neg (by rw [g]; decide)] at q
            exact absurd g2 (by omega)
        · have q := hq 45 (.inr rfl)
          rw [show offO h m 45 = -(3600 * (h : Int) + 60 * m) from if_pos rfl, show a - -(3600 * (h : Int) + 60 * (m : Int)) = a + (3600 * (h : Int) + 60 * m) by omega] at q
          rcases hcase (a + (3600 * (h : Int) + 60 * m)) with ⟨g, g1, g2⟩ | ⟨g, g1⟩ | ⟨g, g1, g2⟩
          · rw [if_pos g] at q
            exact walk_trueA a n h m w hP _ (by omega) (by omega) a0 a1 g1 g2 hx l2 l1 q
          · rw [if_neg (by rw [g]; decide)] at q
            exact absurd g1 (by omega)
          · rw [if_neg (by rw [g]; decide)] at q
            exact walk_trueC a n h m w hP _ (by omega) (by omega) a0 a1 g1 g2 hx l2 l1 q
open Go.ChangeShapes Go.WideShapes Go.ChangeAt
open Go.ChangeMaps (open_string shut_string)
set_option maxRecDepth 100000 in
theorem open_u8 {H : Type} {enc : TypeId × Value → H} {W : World} {r : Reach} {b0 : Nat} {v : Value} {d : DataW H} {p : List MemPlace} (hv : Value.okWide Tryd.prog W r b0 5 v)
    (h : DataW.Trod enc Tryd.prog W 0 (fun _ => true) true 5 v d p) : ∃ i : Int, v = .int .u8 i ∧ 0 ≤ i ∧ i < 256 := by
  obtain ⟨n, rfl⟩ : ∃ n, v = .int .u8 n := by
    simp only [Value.okWide, Tryd.underlying5, Cell.okWide] at hv
    cases v <;> simp_all [Cell.ok]
  obtain ⟨fuel, hf⟩ := h
  obtain ⟨k, hk, _, hw⟩ := DataW.trod_int Tryd.underlying5 hf
  have hk : n = k := by simpa [Value.cells] using hk
  subst hk
  refine ⟨n, rfl, ?_⟩
  simp [Lit.wf] at hw
  have q0 : IntKind.u8.min = 0 := rfl
  have q1 : IntKind.u8.max = 255 := rfl
  omega
set_option maxRecDepth 100000 in
theorem open_bool {H : Type} {enc : TypeId × Value → H} {W : World} {t : TypeId} {r : Reach} {b0 : Nat} {v : Value} {d : DataW H} {p : List MemPlace} (ht : Tryd.prog.underlying t = some .bool) (hv : Value.okWide Tryd.prog W r b0 t v) (_h : DataW.Trod enc Tryd.prog W 0 (fun _ => true) true t v d p) :
    ∃ b, v = .bool b := by
  simp only [Value.okWide, ht, Cell.okWide] at hv
  cases v <;> simp_all [Cell.ok]
theorem own : ownKnob Tryd.prog.godebug = none := by kernel_rfl
theorem laidOut : laidOutB Tryd.prog = true := by kernel_rfl
def laidL : List (String × DataW Unit) := [("math/bits.deBruijn32tab", Rows.laid_math_bits_deBruijn32tab), ("math/bits.deBruijn64tab", Rows.laid_math_bits_deBruijn64tab), ("internal/strconv.uint64pow10", Rows.laid_internal_strconv_uint64pow10), ("unicode/utf8.acceptRanges", Rows.laid_unicode_utf8_acceptRanges), ("unicode/utf8.first", Rows.laid_unicode_utf8_first)]
theorem tabIs_of_reads {P : Program} {W : World} {name : String} {k : IntKind} {zs : List Int} {g : Nat} {t e : TypeId} {n : Nat}
    (hg : P.globalNamed name = some g) (hty : (P.globals[g]?).map (·.type) = some t) (ht : P.underlying t = some (.array n e)) (he : P.underlying e = some (.int k)) (hce : P.cellsOf e = 1) (hct : P.cellsOf t = n)
    (h : Lib.VarReads P W name (Lib.tabData k zs)) : Lib.TabIs P W name k zs := by
  obtain ⟨g', t', cs, fuel, p, hg', ht', hvar, hd⟩ := h
  obtain rfl := Option.some.inj (hg.symm.trans hg')
  obtain rfl := Option.some.inj (hty.symm.trans ht')
  unfold Lib.TabIs
  rw [hvar, ← Lib.cells_of_tab ht he hce hct hd]
theorem pow_eq : (Rows.laid_internal_strconv_uint64pow10 : DataW Unit) = Lib.tabData .u64 Lib.pow10Tab := by kernel_rfl
theorem tabs_of {W : World} (h : laidMetH Tryd.prog laidL W) : Pow W := by
  rw [MakeChecks.laidMetH_plain _ _ _ (by kernel_rfl)] at h
  have h1 : Lib.VarReads Tryd.prog W "internal/strconv.uint64pow10" Rows.laid_internal_strconv_uint64pow10 := Lib.laidMet.reads h (.tail _ (.tail _ (.head _)))
  rw [pow_eq] at h1
  exact tabIs_of_reads (g := (Tryd.prog.globalNamed "internal/strconv.uint64pow10").getD 0) (t := 126) (e := 107) (n := 20) (by kernel_rfl) (by kernel_rfl) (by kernel_rfl) (by kernel_rfl) (by kernel_rfl) (by kernel_rfl) h1
set_option maxRecDepth 100000 in
theorem lifted (os : Os) (started : os.Started) (H : Type) (enc : TypeId × Value → H) :
    ReturnsInHanded {} Tryd.checked os 7 .any (fun w args => (Rows.dayOffsetsSpec.pre enc Tryd.prog Tryd.f7 Rows.dayOffsetsRow.domain false w args ∧ laidMetH Tryd.prog laidL w) ∧ sizedMet enc Tryd.prog Tryd.f7 (OpenSpec.ofChange Rows.dayOffsetsSpec) false w args)
      (Rows.dayOffsetsSpec.post enc Tryd.prog Tryd.f7 false true false false) := by
  refine returnsInHanded_of_change_and (C := Tryd.checked) (X := fun w _ => laidMetH Tryd.prog laidL w) (fun _ _ _ hh h => h.of_heap hh) own started (by kernel_rfl) Tryd.func7
    (ChangeSpec.witness_shaped (enc := enc) (C := Tryd.checked) (os := os) (X := fun w _ => laidMetH Tryd.prog laidL w) false (World.laidAll Tryd.prog os laidL) #[.agg #[.int .i64 0, .int .i64 0], .int .u8 0, .int .u8 0, .bool false] 8 (World.laidAll_os _ _ _)
      (World.shaped_of_ZipB (by kernel_rfl) (by kernel_rfl)) (by kernel_rfl) (by kernel_rfl) (by kernel_rfl)
      (by rw [MakeChecks.laidMetH_plain _ _ _ (by kernel_rfl)]; exact laidMet_laidAll _ (by kernel_rfl) (by kernel_rfl))) ?_
  intro W base args ds gs before hval0 hW _ hsz0 hL _
  have hT : Pow W := tabs_of hL
  have hsz : (DataW.weightsEach Tryd.prog (Tryd.f7.params.toList ++ Rows.dayOffsetsSpec.plain.varTypes Tryd.prog) (ds ++ gs)).all (· ≤ reachBytes) = true := hsz0
  have hval : ∀ (j : Nat) t v, Tryd.f7.params[j]? = some t → args[j]? = some v → Value.okWide Tryd.prog W .any base t v := hval0
  have hW' := hW
  obtain ⟨p, q, hA0, hV, rfl, hfz, hnd⟩ := hW
  have hA : DataW.TrodAll enc Tryd.prog W 0 (fun _ => true) true Tryd.f7.params.toList args.toList ds p := hA0
  rw [Tryd.params7] at hA hval hsz
  have hlt0 : ∀ x ∈ p, x.block < W.heap.size := fun x hx => hW'.lt x (by simp [hx])
  obtain ⟨v0, vs0, d0, ds0, p0, q0, hargs, rfl, rfl, h0, r0⟩ := trodAll_cons hA
  obtain ⟨v1, vs1, d1, ds1, p1, q1, rfl, rfl, rfl, h1, r1⟩ := trodAll_cons r0
  obtain ⟨v2, vs2, d2, ds2, p2, q2, rfl, rfl, rfl, h2, r2⟩ := trodAll_cons r1
  obtain ⟨v3, vs3, d3, ds3, p3, q3, rfl, rfl, rfl, h3, r3⟩ := trodAll_cons r2
  obtain ⟨rfl, rfl, rfl⟩ := trodAll_nil r3
  obtain rfl : args = #[v0, v1, v2, v3] := by cases args; simp_all
  obtain ⟨rfl, rfl⟩ := trodVars_none hV
  obtain ⟨sa, na, rfl, wsa, wna⟩ := open_day (hval 0 23 v0 rfl rfl) h0
  obtain ⟨h, rfl, bh⟩ := open_u8 (hval 1 5 v1 rfl rfl) h1
  obtain ⟨m, rfl, bm⟩ := open_u8 (hval 2 5 v2 rfl rfl) h2
  obtain ⟨k, rfl⟩ := open_bool Tryd.underlying4 (hval 3 4 v3 rfl rfl) h3
  clear hA0 hval0
  refine (walk _ _ _ _ _ _ hT bh bm).mono fun e W' ⟨he, hb⟩ => ⟨_, he, ?_⟩
  exact law_post laidOut (of_decide_eq_true (by kernel_rfl)) rfl rfl Tryd.underlying4 (fun ds hl => by
    match ds, hl with
    | [_, _, _, _], _ => rfl) hW' hb

theorem proved : Rows.DayOffsetsSaid :=
  OpenClaim.holds_of_wide 7 Tryd.f7 rfl rfl rfl rfl rfl rfl rfl ⟨rfl, rfl, rfl, rfl, rfl⟩ rfl rfl rfl rfl rfl (by kernel_rfl) Tryd.func7 (by kernel_rfl)
    (of_decide_eq_true (by kernel_rfl)) (by unfold Func.isWrapper; first | (rw [if_pos (by decide +kernel)]; kernel_rfl) | (rw [if_neg (by decide +kernel)]; exact ⟨rfl, rfl⟩))
    (fun os started H enc _ => lifted os started H enc)
theorem card : Rows.DayOffsetsCardSaid :=
  Claim7.holds_tied_plain_at .later [] [.data, .data, .data, .data, .pinned] true (true, "9dad1e08f6c8d2027cebc61acc31d6ef1a689ef6c3038fbfe70cdb5ff32d60b7") false proved (fun _ h => by cases h) (by kernel_rfl) (fun _ h => by cases h) dayOffsets_row_tie rfl ⟨rfl, rfl⟩ (by kernel_rfl) rfl
    (fun f fn hf hfn => by
      obtain rfl : f = 7 := Option.some.inj ((show Tryd.prog.funcNamed "provost/provostlaw12.DayOffsets" = some 7 by kernel_rfl).symm.trans hf) |>.symm
      obtain rfl : fn = Tryd.f7 := (Option.some.inj (Tryd.func7.symm.trans hfn)).symm
      exact ⟨by kernel_rfl, fun j t ht => by
        rw [Tryd.params7] at ht
        have hm := Array.mem_of_getElem? ht
        have hall : (Tryd.f7.params.toList.all fun u => !Tryd.prog.wantsStandIn u) = true := by kernel_rfl
        rw [Tryd.params7] at hall
        exact (show Tryd.prog.wantsStandIn t = false by simpa using List.all_eq_true.1 hall t (by simpa using hm))⟩)
    (by kernel_rfl)
end Go.Proofs.YtdaadoiedaplaaaDoor.dayOffsets

