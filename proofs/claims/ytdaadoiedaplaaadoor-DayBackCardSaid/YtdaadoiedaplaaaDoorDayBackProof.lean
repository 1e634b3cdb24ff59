/- DayBack: a DateTime's text tells it. Conditions: none. -/
import Derived.Test.YtdaadoiedaplaaaDoorRows
import Derived.Test.YtdaadoiedaplaaaDoorBackPlain2
import Derived.Test.YtdaadoiedaplaaaDoorTie
import Derived.Test.YtdaadoiedaplaaaDoorCards
import Derived.ProofKit
import Derived.OpenShut
import Derived.LaidMore
import Derived.Lay
import Derived.Lib.LaidU8
import Derived.Lib.LaidTab
import Derived.SevenTiedAt
import Derived.Stop.Joined
import Derived.PinnedBridge
namespace Go.Proofs.YtdaadoiedaplaaaDoor.dayBack
open Go.RowKit Go.Lib
theorem bcell {w w' : World} (hb : Below w.heap.size w w') {a : Addr} {v : Value} (h : w.cell? a = some v) : w'.cell? a = some v :=
  (World.cell?_of_block (hb.block a.block (World.block_lt_of_cell? _ _ h))).trans h
theorem acell {w : World} {a : Addr} {v : Value} (h : w.cell? a = some v) (o : Obj) : (w.alloc o).cell? a = some v := bcell (bAl w o) h
theorem text_sz (a n : Int) : (⟨(textL a n).toArray⟩ : ByteArray).size ≤ maxLen := by
  have h := text_len a n
  have h2 : (fracL n.toNat).length ≤ 10 := by
    unfold fracL
    split
    · obtain ⟨j, hj⟩ := trimR_app (dg n.toNat 9) 48
      have := congrArg List.length hj
      rw [dg_len, List.length_append] at this
      simp only [List.length_append, List.length_cons, List.length_nil]
      omega
    · simp
  show (textL a n).toArray.size ≤ _
  rw [List.size_toArray, h]
  unfold maxLen
  omega
theorem text_tells (a n : Int) (hok : okD a n = true) : ParseV ⟨(textL a n).toArray⟩ = .tuple #[.agg #[.int .i64 a, .int .i64 n], .int .i64 0] := by
  unfold ParseV
  rw [show ((⟨(textL a n).toArray⟩ : ByteArray).data.toList) = textL a n from rfl, parse_text a n hok]
  rfl
set_option maxHeartbeats 4000000 in
set_option maxRecDepth 100000 in
theorem walk_11 (a n : Int) (s : ByteArray) (w : World) (hP : Pow w) (hs : s.size ≤ maxLen) (hok : okD a n = true) (y1 y2 : Int) (hp : parseP s.data.toList = some (y1, y2)) :
    Calls Tryd.prog 6 #[.agg #[.int .i64 a, .int .i64 n], .string s] w fun e w' => e = .returned (.bool true) ∧ Below w.heap.size w w' := by
  have hx := fun W h => text_any a n W h
  have hv : TextV a n = .tuple #[.string ⟨(textL a n).toArray⟩, .int .i64 0] := if_pos hok
  have hq := fun W => parse_any ⟨(textL a n).toArray⟩ W (text_sz a n)
  rw [hv] at hx
  rw [text_tells a n hok] at hq
  generalize (⟨(textL a n).toArray⟩ : ByteArray) = t at *
  clear hv hok
  have hr := fun W => parse_any s W hs
  have hv2 : ParseV s = .tuple #[.agg #[.int .i64 y1, .int .i64 y2], .int .i64 0] := by unfold ParseV; rw [hp]; rfl
  obtain ⟨hok2, hlen⟩ := parse_len _ _ _ hp
  have hle : (⟨(textL y1 y2).toArray⟩ : ByteArray).size ≤ s.size := by
    show (textL y1 y2).toArray.size ≤ _
    rw [List.size_toArray, text_len, ← ba_len s]
    exact hlen
  have hck := fun W => check_any y1 y2 W
  rw [show errD y1 y2 = 0 from if_pos hok2] at hck
  rw [hv2] at hr
  have hx2 := fun W h => text_any y1 y2 W h
  have hv3 : TextV y1 y2 = .tuple #[.string ⟨(textL y1 y2).toArray⟩, .int .i64 0] := if_pos hok2
  have hq2 := fun W => parse_any ⟨(textL y1 y2).toArray⟩ W (text_sz y1 y2)
  rw [hv3] at hx2
  rw [text_tells y1 y2 hok2] at hq2
  generalize (⟨(textL y1 y2).toArray⟩ : ByteArray) = u at *
  have hle' : (u.size : Int) ≤ s.size := by omega
  clear hle hlen
  have HCK := Lib.hid hck
  clear hck
  clear hv2 hv3 hok2 hp
  have HX := Lib.hid hx
  have HQ := Lib.hid hq
  have HR := Lib.hid hr
  have HX2 := Lib.hid hx2
  have HQ2 := Lib.hid hq2
  clear hx hq hr hx2 hq2
  go_enter Tryd.func6, Tryd.ntmps6
  go_wp2_with fail
  refine (alive_any _ (hP.below (bAl _ _))).mono ?_
  rintro e w1 ⟨rfl, hb⟩
  obtain ⟨c0, c1⟩ := day_cells _ _ _ _ hb
  have HP1 := Lib.hid ((hP.below (bAl _ _)).below hb)
  have HB1 := Lib.hid (bt (bAl w (.cells #[.int .i64 a, .int .i64 n] 23)) (bAl w (.cells #[.int .i64 a, .int .i64 n] 23)).size hb)
  clear hb hP
  go_wp2_with fail
  refine (HX.out _ HP1.out).mono ?_
  rintro e w2 ⟨rfl, hb⟩
  replace c0 := bcell hb c0
  replace c1 := bcell hb c1
  have HP2 := Lib.hid (HP1.out.below hb)
  have HB2 := Lib.hid (bt HB1.out HB1.out.size hb)
  clear hb HB1 HP1
  go_wp2_with fail
  refine (HQ.out _).mono ?_
  rintro e w3 ⟨rfl, hb⟩
  replace c0 := bcell hb c0
  replace c1 := bcell hb c1
  have HP3 := Lib.hid ((HP2.out.below hb).below (bAl _ (.cells #[.int .i64 (a), .int .i64 (n)] 23)))
  have HB3 := Lib.hid (bt (bt HB2.out HB2.out.size hb) (bt HB2.out HB2.out.size hb).size (bAl _ (.cells #[.int .i64 (a), .int .i64 (n)] 23)))
  replace c0 := acell c0 (.cells #[.int .i64 (a), .int .i64 (n)] 23)
  replace c1 := acell c1 (.cells #[.int .i64 (a), .int .i64 (n)] 23)
  clear hb HB2 HP2
  go_wp2_with fail
  refine (HR.out _).mono ?_
  rintro e w4 ⟨rfl, hb⟩
  have HP4 := Lib.hid ((HP3.out.below hb).below (bAl _ (.cells #[.int .i64 (y1), .int .i64 (y2)] 23)))
  have HB4 := Lib.hid (bt (bt HB3.out HB3.out.size hb) (bt HB3.out HB3.out.size hb).size (bAl _ (.cells #[.int .i64 (y1), .int .i64 (y2)] 23)))
  clear hb HB3 HP3 c0 c1
  go_wp2_with fail
  refine (HX2.out _ HP4.out).mono ?_
  rintro e w5 ⟨rfl, hb⟩
  obtain ⟨c0, c1⟩ := day_cells _ _ _ _ hb
  have HB5 := Lib.hid (bt HB4.out HB4.out.size hb)
  clear hb HB4 HP4
  go_wp2_with fail
  refine (HQ2.out _).mono ?_
  rintro e w6 ⟨rfl, hb⟩
  replace c0 := bcell hb c0
  replace c1 := bcell hb c1
  have HB6 := Lib.hid (bt (bt HB5.out HB5.out.size hb) (bt HB5.out HB5.out.size hb).size (bAl _ (.cells #[.int .i64 (y1), .int .i64 (y2)] 23)))
  replace c0 := acell c0 (.cells #[.int .i64 (y1), .int .i64 (y2)] 23)
  replace c1 := acell c1 (.cells #[.int .i64 (y1), .int .i64 (y2)] 23)
  clear hb HB5
  go_wp2_with fail
  refine (HCK.out _).mono ?_
  rintro e w7 ⟨rfl, hb⟩
  have HB7 := Lib.hid (bt HB6.out HB6.out.size hb)
  clear hb
  go_wp2_with fail
  go_ret
  exact ⟨rfl, HB7.out⟩
set_option maxHeartbeats 4000000 in
set_option maxRecDepth 100000 in
theorem walk_10 (a n : Int) (s : ByteArray) (w : World) (hP : Pow w) (hs : s.size ≤ maxLen) (hok : okD a n = true) (hp : parseP s.data.toList = none) :
    Calls Tryd.prog 6 #[.agg #[.int .i64 a, .int .i64 n], .string s] w fun e w' => e = .returned (.bool true) ∧ Below w.heap.size w w' := by
  have hx := fun W h => text_any a n W h
  have hv : TextV a n = .tuple #[.string ⟨(textL a n).toArray⟩, .int .i64 0] := if_pos hok
  have hq := fun W => parse_any ⟨(textL a n).toArray⟩ W (text_sz a n)
  rw [hv] at hx
  rw [text_tells a n hok] at hq
  generalize (⟨(textL a n).toArray⟩ : ByteArray) = t at *
  clear hv hok
  have hr := fun W => parse_any s W hs
  have hv2 : ParseV s = .tuple #[.agg #[.int .i64 0, .int .i64 0], .int .i64 120] := by unfold ParseV; rw [hp]; rfl
  have hok2 : okD 0 0 = true := rfl
  rw [hv2] at hr
  have hx2 := fun W h => text_any 0 0 W h
  have hv3 : TextV 0 0 = .tuple #[.string ⟨(textL 0 0).toArray⟩, .int .i64 0] := if_pos hok2
  have hq2 := fun W => parse_any ⟨(textL 0 0).toArray⟩ W (text_sz 0 0)
  rw [hv3] at hx2
  rw [text_tells 0 0 hok2] at hq2
  generalize (⟨(textL 0 0).toArray⟩ : ByteArray) = u at *
  clear hv2 hv3 hok2 hp
  have HX := Lib.hid hx
  have HQ := Lib.hid hq
  have HR := Lib.hid hr
  have HX2 := Lib.hid hx2
  have HQ2 := Lib.hid hq2
  clear hx hq hr hx2 hq2
  go_enter Tryd.func6, Tryd.ntmps6
  go_wp2_with fail
  refine (alive_any _ (hP.below (bAl _ _))).mono ?_
  rintro e w1 ⟨rfl, hb⟩
  obtain ⟨c0, c1⟩ := day_cells _ _ _ _ hb
  have HP1 := Lib.hid ((hP.below (bAl _ _)).below hb)
  have HB1 := Lib.hid (bt (bAl w (.cells #[.int .i64 a, .int .i64 n] 23)) (bAl w (.cells #[.int .i64 a, .int .i64 n] 23)).size hb)
  clear hb hP
  go_wp2_with fail
  refine (HX.out _ HP1.out).mono ?_
  rintro e w2 ⟨rfl, hb⟩
  replace c0 := bcell hb c0
  replace c1 := bcell hb c1
  have HP2 := Lib.hid (HP1.out.below hb)
  have HB2 := Lib.hid (bt HB1.out HB1.out.size hb)
  clear hb HB1 HP1
  go_wp2_with fail
  refine (HQ.out _).mono ?_
  rintro e w3 ⟨rfl, hb⟩
  replace c0 := bcell hb c0
  replace c1 := bcell hb c1
  have HP3 := Lib.hid ((HP2.out.below hb).below (bAl _ (.cells #[.int .i64 (a), .int .i64 (n)] 23)))
  have HB3 := Lib.hid (bt (bt HB2.out HB2.out.size hb) (bt HB2.out HB2.out.size hb).size (bAl _ (.cells #[.int .i64 (a), .int .i64 (n)] 23)))
  replace c0 := acell c0 (.cells #[.int .i64 (a), .int .i64 (n)] 23)
  replace c1 := acell c1 (.cells #[.int .i64 (a), .int .i64 (n)] 23)
  clear hb HB2 HP2
  go_wp2_with fail
  refine (HR.out _).mono ?_
  rintro e w4 ⟨rfl, hb⟩
  have HP4 := Lib.hid ((HP3.out.below hb).below (bAl _ (.cells #[.int .i64 (0), .int .i64 (0)] 23)))
  have HB4 := Lib.hid (bt (bt HB3.out HB3.out.size hb) (bt HB3.out HB3.out.size hb).size (bAl _ (.cells #[.int .i64 (0), .int .i64 (0)] 23)))
  clear hb HB3 HP3 c0 c1
  go_wp2_with fail
  refine (HX2.out _ HP4.out).mono ?_
  rintro e w5 ⟨rfl, hb⟩
  obtain ⟨c0, c1⟩ := day_cells _ _ _ _ hb
  have HB5 := Lib.hid (bt HB4.out HB4.out.size hb)
  clear hb HB4 HP4
  go_wp2_with fail
  refine (HQ2.out _).mono ?_
  rintro e w6 ⟨rfl, hb⟩
  replace c0 := bcell hb c0
  replace c1 := bcell hb c1
  have HB6 := Lib.hid (bt (bt HB5.out HB5.out.size hb) (bt HB5.out HB5.out.size hb).size (bAl _ (.cells #[.int .i64 (0), .int .i64 (0)] 23)))
  replace c0 := acell c0 (.cells #[.int .i64 (0), .int .i64 (0)] 23)
  replace c1 := acell c1 (.cells #[.int .i64 (0), .int .i64 (0)] 23)
  clear hb HB5
  go_wp2_with fail
  go_ret
  exact ⟨rfl, HB6.out⟩
set_option maxHeartbeats 4000000 in
set_option maxRecDepth 100000 in
theorem walk_01 (a n : Int) (s : ByteArray) (w : World) (hP : Pow w) (hs : s.size ≤ maxLen) (hok : okD a n = false) (y1 y2 : Int) (hp : parseP s.data.toList = some (y1, y2)) :
    Calls Tryd.prog 6 #[.agg #[.int .i64 a, .int .i64 n], .string s] w fun e w' => e = .returned (.bool true) ∧ Below w.heap.size w w' := by
  have hx := fun W h => text_any a n W h
  have hv : TextV a n = .tuple #[.string ⟨#[]⟩, .int .i64 120] := if_neg (by rw [hok]; decide)
  have hq := fun W => parse_any ⟨#[]⟩ W (by decide)
  rw [hv] at hx
  rw [show ParseV ⟨#[]⟩ = .tuple #[.agg #[.int .i64 0, .int .i64 0], .int .i64 120] from rfl] at hq
  clear hv hok
  have hr := fun W => parse_any s W hs
  have hv2 : ParseV s = .tuple #[.agg #[.int .i64 y1, .int .i64 y2], .int .i64 0] := by unfold ParseV; rw [hp]; rfl
  obtain ⟨hok2, hlen⟩ := parse_len _ _ _ hp
  have hle : (⟨(textL y1 y2).toArray⟩ : ByteArray).size ≤ s.size := by
    show (textL y1 y2).toArray.size ≤ _
    rw [List.size_toArray, text_len, ← ba_len s]
    exact hlen
  have hck := fun W => check_any y1 y2 W
  rw [show errD y1 y2 = 0 from if_pos hok2] at hck
  rw [hv2] at hr
  have hx2 := fun W h => text_any y1 y2 W h
  have hv3 : TextV y1 y2 = .tuple #[.string ⟨(textL y1 y2).toArray⟩, .int .i64 0] := if_pos hok2
  have hq2 := fun W => parse_any ⟨(textL y1 y2).toArray⟩ W (text_sz y1 y2)
  rw [hv3] at hx2
  rw [text_tells y1 y2 hok2] at hq2
  generalize (⟨(textL y1 y2).toArray⟩ : ByteArray) = u at *
  have hle' : (u.size : Int) ≤ s.size := by omega
  clear hle hlen
  have HCK := Lib.hid hck
  clear hck
  clear hv2 hv3 hok2 hp
  have HX := Lib.hid hx
  have HQ := Lib.hid hq
  have HR := Lib.hid hr
  have HX2 := Lib.hid hx2
  have HQ2 := Lib.hid hq2
  clear hx hq hr hx2 hq2
  go_enter Tryd.func6, Tryd.ntmps6
  go_wp2_with fail
  refine (alive_any _ (hP.below (bAl _ _))).mono ?_
  rintro e w1 ⟨rfl, hb⟩
  obtain ⟨c0, c1⟩ := day_cells _ _ _ _ hb
  have HP1 := Lib.hid ((hP.below (bAl _ _)).below hb)
  have HB1 := Lib.hid (bt (bAl w (.cells #[.int .i64 a, .int .i64 n] 23)) (bAl w (.cells #[.int .i64 a, .int .i64 n] 23)).size hb)
  clear hb hP
  go_wp2_with fail
  refine (HX.out _ HP1.out).mono ?_
  rintro e w2 ⟨rfl, hb⟩
  replace c0 := bcell hb c0
  replace c1 := bcell hb c1
  have HP2 := Lib.hid (HP1.out.below hb)
  have HB2 := Lib.hid (bt HB1.out HB1.out.size hb)
  clear hb HB1 HP1
  go_wp2_with fail
  refine (HQ.out _).mono ?_
  rintro e w3 ⟨rfl, hb⟩
  replace c0 := bcell hb c0
  replace c1 := bcell hb c1
  have HP3 := Lib.hid ((HP2.out.below hb).below (bAl _ (.cells #[.int .i64 (0), .int .i64 (0)] 23)))
  have HB3 := Lib.hid (bt (bt HB2.out HB2.out.size hb) (bt HB2.out HB2.out.size hb).size (bAl _ (.cells #[.int .i64 (0), .int .i64 (0)] 23)))
  replace c0 := acell c0 (.cells #[.int .i64 (0), .int .i64 (0)] 23)
  replace c1 := acell c1 (.cells #[.int .i64 (0), .int .i64 (0)] 23)
  clear hb HB2 HP2
  go_wp2_with fail
  refine (HR.out _).mono ?_
  rintro e w4 ⟨rfl, hb⟩
  have HP4 := Lib.hid ((HP3.out.below hb).below (bAl _ (.cells #[.int .i64 (y1), .int .i64 (y2)] 23)))
  have HB4 := Lib.hid (bt (bt HB3.out HB3.out.size hb) (bt HB3.out HB3.out.size hb).size (bAl _ (.cells #[.int .i64 (y1), .int .i64 (y2)] 23)))
  clear hb HB3 HP3 c0 c1
  go_wp2_with fail
  refine (HX2.out _ HP4.out).mono ?_
  rintro e w5 ⟨rfl, hb⟩
  obtain ⟨c0, c1⟩ := day_cells _ _ _ _ hb
  have HB5 := Lib.hid (bt HB4.out HB4.out.size hb)
  clear hb HB4 HP4
  go_wp2_with fail
  refine (HQ2.out _).mono ?_
  rintro e w6 ⟨rfl, hb⟩
  replace c0 := bcell hb c0
  replace c1 := bcell hb c1
  have HB6 := Lib.hid (bt (bt HB5.out HB5.out.size hb) (bt HB5.out HB5.out.size hb).size (bAl _ (.cells #[.int .i64 (y1), .int .i64 (y2)] 23)))
  replace c0 := acell c0 (.cells #[.int .i64 (y1), .int .i64 (y2)] 23)
  replace c1 := acell c1 (.cells #[.int .i64 (y1), .int .i64 (y2)] 23)
  clear hb HB5
  go_wp2_with fail
  refine (HCK.out _).mono ?_
  rintro e w7 ⟨rfl, hb⟩
  have HB7 := Lib.hid (bt HB6.out HB6.out.size hb)
  clear hb
  go_wp2_with fail
  go_ret
  exact ⟨rfl, HB7.out⟩
set_option maxHeartbeats 4000000 in
set_option maxRecDepth 100000 in
theorem walk_00 (a n : Int) (s : ByteArray) (w : World) (hP : Pow w) (hs : s.size ≤ maxLen) (hok : okD a n = false) (hp : parseP s.data.toList = none) :
    Calls Tryd.prog 6 #[.agg #[.int .i64 a, .int .i64 n], .string s] w fun e w' => e = .returned (.bool true) ∧ Below w.heap.size w w' := by
  have hx := fun W h => text_any a n W h
  have hv : TextV a n = .tuple #[.string ⟨#[]⟩, .int .i64 120] := if_neg (by rw [hok]; decide)
  have hq := fun W => parse_any ⟨#[]⟩ W (by decide)
  rw [hv] at hx
  rw [show ParseV ⟨#[]⟩ = .tuple #[.agg #[.int .i64 0, .int .i64 0], .int .i64 120] from rfl] at hq
  clear hv hok
  have hr := fun W => parse_any s W hs
  have hv2 : ParseV s = .tuple #[.agg #[.int .i64 0, .int .i64 0], .int .i64 120] := by unfold ParseV; rw [hp]; rfl
  have hok2 : okD 0 0 = true := rfl
  rw [hv2] at hr
  have hx2 := fun W h => text_any 0 0 W h
  have hv3 : TextV 0 0 = .tuple #[.string ⟨(textL 0 0).toArray⟩, .int .i64 0] := if_pos hok2
  have hq2 := fun W => parse_any ⟨(textL 0 0).toArray⟩ W (text_sz 0 0)
  rw [hv3] at hx2
  rw [text_tells 0 0 hok2] at hq2
  generalize (⟨(textL 0 0).toArray⟩ : ByteArray) = u at *
  clear hv2 hv3 hok2 hp
  have HX := Lib.hid hx
  have HQ := Lib.hid hq
  have HR := Lib.hid hr
  have HX2 := Lib.hid hx2
  have HQ2 := Lib.hid hq2
  clear hx hq hr hx2 hq2
  go_enter Tryd.func6, Tryd.ntmps6
  go_wp2_with fail
  refine (alive_any _ (hP.below (bAl _ _))).mono ?_
  rintro e w1 ⟨rfl, hb⟩
  obtain ⟨c0, c1⟩ := day_cells _ _ _ _ hb
  have HP1 := Lib.hid ((hP.below (bAl _ _)).below hb)
  have HB1 := Lib.hid (bt (bAl w (.cells #[.int .i64 a, .int .i64 n] 23)) (bAl w (.cells #[.int .i64 a, .int .i64 n] 23)).size hb)
  clear hb hP
  go_wp2_with fail
  refine (HX.out _ HP1.out).mono ?_
  rintro e w2 ⟨rfl, hb⟩
  replace c0 := bcell hb c0
  replace c1 := bcell hb c1
  have HP2 := Lib.hid (HP1.out.below hb)
  have HB2 := Lib.hid (bt HB1.out HB1.out.size hb)
  clear hb HB1 HP1
  go_wp2_with fail
  refine (HQ.out _).mono ?_
  rintro e w3 ⟨rfl, hb⟩
  replace c0 := bcell hb c0
  replace c1 := bcell hb c1
  have HP3 := Lib.hid ((HP2.out.below hb).below (bAl _ (.cells #[.int .i64 (0), .int .i64 (0)] 23)))
  have HB3 := Lib.hid (bt (bt HB2.out HB2.out.size hb) (bt HB2.out HB2.out.size hb).size (bAl _ (.cells #[.int .i64 (0), .int .i64 (0)] 23)))
  replace c0 := acell c0 (.cells #[.int .i64 (0), .int .i64 (0)] 23)
  replace c1 := acell c1 (.cells #[.int .i64 (0), .int .i64 (0)] 23)
  clear hb HB2 HP2
  go_wp2_with fail
  refine (HR.out _).mono ?_
  rintro e w4 ⟨rfl, hb⟩
  have HP4 := Lib.hid ((HP3.out.below hb).below (bAl _ (.cells #[.int .i64 (0), .int .i64 (0)] 23)))
  have HB4 := Lib.hid (bt (bt HB3.out HB3.out.size hb) (bt HB3.out HB3.out.size hb).size (bAl _ (.cells #[.int .i64 (0), .int .i64 (0)] 23)))
  clear hb HB3 HP3 c0 c1
  go_wp2_with fail
  refine (HX2.out _ HP4.out).mono ?_
  rintro e w5 ⟨rfl, hb⟩
  obtain ⟨c0, c1⟩ := day_cells _ _ _ _ hb
  have HB5 := Lib.hid (bt HB4.out HB4.out.size hb)
  clear hb HB4 HP4
  go_wp2_with fail
  refine (HQ2.out _).mono ?_
  rintro e w6 ⟨rfl, hb⟩
  replace c0 := bcell hb c0
  replace c1 := bcell hb c1
  have HB6 := Lib.hid (bt (bt HB5.out HB5.out.size hb) (bt HB5.out HB5.out.size hb).size (bAl _ (.cells #[.int .i64 (0), .int .i64 (0)] 23)))
  replace c0 := acell c0 (.cells #[.int .i64 (0), .int .i64 (0)] 23)
  replace c1 := acell c1 (.cells #[.int .i64 (0), .int .i64 (0)] 23)
  clear hb HB5
  go_wp2_with fail
  go_ret
  exact ⟨rfl, HB6.out⟩
theorem walk (a n : Int) (s : ByteArray) (w : World) (hP : Pow w) (hs : s.size ≤ maxLen) : Calls Tryd.prog 6 #[.agg #[.int .i64 a, .int .i64 n], .string s] w fun e w' => e = .returned (.bool true) ∧ Below w.heap.size w w' := by
  cases h : okD a n <;> cases hp : parseP s.data.toList
  · exact walk_00 a n s w hP hs h hp
  · exact walk_01 a n s w hP hs h _ _ hp
  · exact walk_10 a n s w hP hs h hp
  · exact walk_11 a n s w hP hs h _ _ hp
open Go.ChangeShapes Go.WideShapes Go.ChangeAt
open Go.ChangeMaps (open_string shut_string)
theorem own : ownKnob Tryd.prog.godebug = none := by kernel_rfl
theorem laidOut : laidOutB Tryd.prog = true := by kernel_rfl
def laidL : List (String × DataW Unit) := [("math/bits.deBruijn32tab", Rows.laid_math_bits_deBruijn32tab), ("math/bits.deBruijn64tab", Rows.laid_math_bits_deBruijn64tab), ("internal/strconv.uint64pow10", Rows.laid_internal_strconv_uint64pow10), ("unicode/utf8.acceptRanges", Rows.laid_unicode_utf8_acceptRanges), ("unicode/utf8.first", Rows.laid_unicode_utf8_first)]
theorem tabIs_of_reads {P : Program} {W : World} {name : String} {k : IntKind} {zs : List Int} {g : Nat} {t e : TypeId} {n : Nat}
    (hg : P.globalNamed name = some g) (hty : (P.globals[g]?).map (·.type) = some t) (ht : P.underlying t = some (.array n e)) (he : P.underlying e = some (.int k)) (hce : P.cellsOf e = 1) (hct : P.cellsOf t = n)
    (h : Lib.VarReads P W name (Lib.tabData k zs)) : Lib.TabIs P W name k zs := by
  obtain ⟨g', t', cs, fuel, p, hg', ht', hvar, hd⟩ := h
  obtain rfl := Option.some.inj (hg.symm.trans hg')
  obtain rfl := Option.some.inj (hty.symm.trans ht')
  unfold Lib.TabIs
  rw [hvar, ← Lib.cells_of_tab ht he hce hct hd]
theorem pow_eq : (Rows.laid_internal_strconv_uint64pow10 : DataW Unit) = Lib.tabData .u64 Lib.pow10Tab := by kernel_rfl
theorem tabs_of {W : World} (h : laidMetH Tryd.prog laidL W) : Pow W := by
  rw [MakeChecks.laidMetH_plain _ _ _ (by kernel_rfl)] at h
  have h1 : Lib.VarReads Tryd.prog W "internal/strconv.uint64pow10" Rows.laid_internal_strconv_uint64pow10 := Lib.laidMet.reads h (.tail _ (.tail _ (.head _)))
  rw [pow_eq] at h1
  exact tabIs_of_reads (g := (Tryd.prog.globalNamed "internal/strconv.uint64pow10").getD 0) (t := 126) (e := 107) (n := 20) (by kernel_rfl) (by kernel_rfl) (by kernel_rfl) (by kernel_rfl) (by kernel_rfl) (by kernel_rfl) h1
set_option maxRecDepth 100000 in
theorem lifted (os : Os) (started : os.Started) (H : Type) (enc : TypeId × Value → H) :
    ReturnsInHanded {} Tryd.checked os 6 .any (fun w args => (Rows.dayBackSpec.pre enc Tryd.prog Tryd.f6 Rows.dayBackRow.domain false w args ∧ laidMetH Tryd.prog laidL w) ∧ sizedMet enc Tryd.prog Tryd.f6 (OpenSpec.ofChange Rows.dayBackSpec) false w args)
      (Rows.dayBackSpec.post enc Tryd.prog Tryd.f6 false true false false) := by
  refine returnsInHanded_of_change_and (C := Tryd.checked) (X := fun w _ => laidMetH Tryd.prog laidL w) (fun _ _ _ hh h => h.of_heap hh) own started (by kernel_rfl) Tryd.func6
    (ChangeSpec.witness_shaped (enc := enc) (C := Tryd.checked) (os := os) (X := fun w _ => laidMetH Tryd.prog laidL w) false (World.laidAll Tryd.prog os laidL) #[.agg #[.int .i64 0, .int .i64 0], .string ⟨#[]⟩] 8 (World.laidAll_os _ _ _)
      (World.shaped_of_ZipB (by kernel_rfl) (by kernel_rfl)) (by kernel_rfl) (by kernel_rfl) (by kernel_rfl)
      (by rw [MakeChecks.laidMetH_plain _ _ _ (by kernel_rfl)]; exact laidMet_laidAll _ (by kernel_rfl) (by kernel_rfl))) ?_
  intro W base args ds gs before hval0 hW _ hsz0 hL _
  have hT : Pow W := tabs_of hL
  have hsz : (DataW.weightsEach Tryd.prog (Tryd.f6.params.toList ++ Rows.dayBackSpec.plain.varTypes Tryd.prog) (ds ++ gs)).all (· ≤ reachBytes) = true := hsz0
  have hval : ∀ (j : Nat) t v, Tryd.f6.params[j]? = some t → args[j]? = some v → Value.okWide Tryd.prog W .any base t v := hval0
  have hW' := hW
  obtain ⟨p, q, hA0, hV, rfl, hfz, hnd⟩ := hW
  have hA : DataW.TrodAll enc Tryd.prog W 0 (fun _ => true) true Tryd.f6.params.toList args.toList ds p := hA0
  rw [Tryd.params6] at hA hval hsz
  have hlt0 : ∀ x ∈ p, x.block < W.heap.size := fun x hx => hW'.lt x (by simp [hx])
  obtain ⟨v0, vs0, d0, ds0, p0, q0, hargs, rfl, rfl, h0, r0⟩ := trodAll_cons hA
  obtain ⟨v1, vs1, d1, ds1, p1, q1, rfl, rfl, rfl, h1, r1⟩ := trodAll_cons r0
  obtain ⟨rfl, rfl, rfl⟩ := trodAll_nil r1
  obtain rfl : args = #[v0, v1] := by cases args; simp_all
  obtain ⟨rfl, rfl⟩ := trodVars_none hV
  obtain ⟨s, rfl, rfl, rfl, ws⟩ := open_string Tryd.underlying9 (hval 1 9 v1 rfl rfl) h1
  have rs : s.size ≤ 140737488351232 := by
    have := sized_string hsz (j := 1) rfl rfl
    simpa [reachBytes] using this
  obtain ⟨sa, na, rfl, wsa, wna⟩ := open_day (hval 0 23 v0 rfl rfl) h0
  clear hA0 hval0
  refine (walk _ _ _ _ hT (by unfold maxLen; omega)).mono fun e W' ⟨he, hb⟩ => ⟨_, he, ?_⟩
  exact law_post laidOut (of_decide_eq_true (by kernel_rfl)) rfl rfl Tryd.underlying4 (fun ds hl => by
    match ds, hl with
    | [_, _], _ => rfl) hW' hb

theorem proved : Rows.DayBackSaid :=
  OpenClaim.holds_of_wide 6 Tryd.f6 rfl rfl rfl rfl rfl rfl rfl ⟨rfl, rfl, rfl, rfl, rfl⟩ rfl rfl rfl rfl rfl (by kernel_rfl) Tryd.func6 (by kernel_rfl)
    (of_decide_eq_true (by kernel_rfl)) (by unfold Func.isWrapper; first | (rw [if_pos (by decide +kernel)]; kernel_rfl) | (rw [if_neg (by decide +kernel)]; exact ⟨rfl, rfl⟩))
    (fun os started H enc _ => lifted os started H enc)
theorem card : Rows.DayBackCardSaid :=
  Claim7.holds_tied_plain_at .later [] [.data, .data, .data, .data, .pinned] true (true, "9dad1e08f6c8d2027cebc61acc31d6ef1a689ef6c3038fbfe70cdb5ff32d60b7") false proved (fun _ h => by cases h) (by kernel_rfl) (fun _ h => by cases h) dayBack_row_tie rfl ⟨rfl, rfl⟩ (by kernel_rfl) rfl
    (fun f fn hf hfn => by
      obtain rfl : f = 6 := Option.some.inj ((show Tryd.prog.funcNamed "provost/provostlaw12.DayBack" = some 6 by kernel_rfl).symm.trans hf) |>.symm
      obtain rfl : fn = Tryd.f6 := (Option.some.inj (Tryd.func6.symm.trans hfn)).symm
      exact ⟨by kernel_rfl, fun j t ht => by
        rw [Tryd.params6] at ht
        have hm := Array.mem_of_getElem? ht
        have hall : (Tryd.f6.params.toList.all fun u => !Tryd.prog.wantsStandIn u) = true := by kernel_rfl
        rw [Tryd.params6] at hall
        exact (show Tryd.prog.wantsStandIn t = false by simpa using List.all_eq_true.1 hall t (by simpa using hm))⟩)
    (by kernel_rfl)
end Go.Proofs.YtdaadoiedaplaaaDoor.dayBack

