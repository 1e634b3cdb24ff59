/- The program's text that is read: fraction. Conditions: those of each theorem. -/
import Derived.Test.YtdaadoiedaplaaaDoorMark
import Derived.Shelf.Strings.SlTrimAscii
namespace Go.Proofs.YtdaadoiedaplaaaDoor
open Go.RowKit Go.Lib
def digs : List UInt8 := [48, 49, 50, 51, 52, 53, 54, 55, 56, 57]
/-- how many digits stand ahead -/
def nDig (l : List UInt8) : Nat := l.length - (Lib.trimLeftS l digs).length
def fracP (l : List UInt8) : Option (Nat × List UInt8) :=
  if l.head? = some 46 then
    (if 1 ≤ nDig (l.drop 1) ∧ nDig (l.drop 1) ≤ 9 then (numP (nDig (l.drop 1)) 0 999999999 (l.drop 1)).map (fun p => (p.1 * 10 ^ (9 - nDig (l.drop 1)), p.2)) else none)
  else some (0, l)
theorem trimL_len (l cs : List UInt8) : (Lib.trimLeftS l cs).length ≤ l.length := by
  unfold Lib.trimLeftS
  exact List.IsSuffix.length_le (List.dropWhile_suffix _)
theorem trimleft_any (s : ByteArray) (w : World) : Calls Tryd.prog 43 #[.string s, .string ⟨#[48, 49, 50, 51, 52, 53, 54, 55, 56, 57]⟩] w fun e w' => e = .returned (.string ⟨(Lib.trimLeftS s.data.toList digs).toArray⟩) ∧ Below w.heap.size w w' :=
  Any.strings_TrimLeft_laid Tryd.lays161 (by kernel_rfl) s ⟨#[48, 49, 50, 51, 52, 53, 54, 55, 56, 57]⟩ w (by decide) (by
    intro j b h
    have hm : b ∈ digs := List.mem_of_getElem? h
    simp [digs] at hm
    rcases hm with rfl | rfl | rfl | rfl | rfl | rfl | rfl | rfl | rfl | rfl <;> decide)
theorem hasp_dot (l : List UInt8) : Lib.hasPrefix l [46] = decide (l.head? = some 46) := by
  unfold Lib.hasPrefix
  cases l with
  | nil => rfl
  | cons c r =>
    rw [Bool.eq_iff_iff]
    simp [List.isPrefixOf]
    exact eq_comm
def FracPost (g : Nat) (o : Option (List UInt8)) (w : World) (e : Ending) (w' : World) : Prop :=
  ∃ r : Nat, e = .returned (.int .i64 r) ∧ (∀ v l, o.bind fracP = some (v, l) → r = v) ∧ St w' g ((o.bind fracP).map (·.2)) ∧ w.grownBy w' (some g)
theorem St.below {w w' : World} {g : Nat} {o : Option (List UInt8)} (h : St w g o) (hb : Below w.heap.size w w') : St w' g o := by
  obtain ⟨s, b, c0, c1, f0, f1, hs, ho⟩ := h
  have hg : g < w.heap.size := World.block_lt_of_cell? w _ c0
  exact ⟨s, b, (hb.cell (p := ⟨g, 0, none⟩) hg).trans c0, (hb.cell (p := ⟨g, 1, none⟩) hg).trans c1, (hb.frozen (p := ⟨g, 0, none⟩) hg).trans f0, (hb.frozen (p := ⟨g, 1, none⟩) hg).trans f1, hs, ho⟩
theorem gb_below {w w' : World} (hb : Below w.heap.size w w') (r : Option Nat) : w.grownBy w' r := ⟨hb.os, hb.tape, hb.output, hb.size, fun k hk _ => hb.block k hk⟩
set_option maxHeartbeats 4000000 in
set_option maxRecDepth 100000 in
theorem fraction_any (g : Nat) (o : Option (List UInt8)) (w : World) (hS : St w g o) :
    Calls Tryd.prog 26 #[.pointer (some ⟨g, 0, none⟩)] w (FracPost g o w) := by
  have hS0 := hS
  obtain ⟨s, b, c0, c1, f0, f1, hsz, ho⟩ := hS
  have hcp := fun W => Tryd.strings_CutPrefix s ⟨#[46]⟩ W
  rw [show ((⟨#[46]⟩ : ByteArray).data.toList) = [46] from rfl, hasp_dot] at hcp
  by_cases hd : s.data.toList.head? = some 46
  · have htp : Lib.trimPrefix s.data.toList [46] = s.data.toList.drop 1 := by
      unfold Lib.trimPrefix
      rw [hasp_dot, decide_eq_true hd]
      rfl
    rw [htp, decide_eq_true hd] at hcp
    obtain ⟨R, hR⟩ : ∃ R : ByteArray, (⟨(s.data.toList.drop 1).toArray⟩ : ByteArray) = R := ⟨_, rfl⟩
    have hRl : R.data.toList = s.data.toList.drop 1 := by rw [← hR]
    have hRs : R.size ≤ s.size := by rw [← ba_len, ← ba_len, hRl]; simp
    rw [hR] at hcp
    have htl := fun W => trimleft_any R W
    obtain ⟨T, hT⟩ : ∃ T : ByteArray, (⟨(Lib.trimLeftS R.data.toList digs).toArray⟩ : ByteArray) = T := ⟨_, rfl⟩
    rw [hT] at htl
    have hTl : T.data.toList = Lib.trimLeftS R.data.toList digs := by rw [← hT]
    have hTs : T.size ≤ R.size := by rw [← ba_len, ← ba_len, hTl]; exact trimL_len _ _
    obtain ⟨n, hn⟩ : ∃ n : Nat, R.size - T.size = n := ⟨_, rfl⟩
    have hnd : nDig (s.data.toList.drop 1) = n := by
      unfold nDig
      rw [← hRl, ← hTl, ba_len, ba_len, hn]
    have hnI : (R.size : Int) - T.size = n := by omega
    have hSR : St (w.setCell ⟨g, 0, none⟩ (.string R)) g (o.map (·.drop 1)) := by
      refine st_str (b := b) R _ ?_ c0 c1 f0 f1 (Nat.le_trans hRs hsz)
      cases o with
      | none => exact ho
      | some l =>
        obtain ⟨rfl, rfl⟩ := ho
        exact ⟨rfl, hRl⟩
    have hbad : ¬ (1 ≤ n ∧ n ≤ 9) → o.bind fracP = none := by
      intro h
      cases o with
      | none => rfl
      | some l =>
        obtain ⟨rfl, rfl⟩ := ho
        show fracP s.data.toList = none
        unfold fracP
        rw [if_pos hd, hnd, if_neg h]
    have hgood : 1 ≤ n ∧ n ≤ 9 → o.bind fracP = ((o.map (·.drop 1)).bind (numP n 0 999999999)).map (fun p => (p.1 * 10 ^ (9 - n), p.2)) := by
      intro h
      cases o with
      | none => rfl
      | some l =>
        obtain ⟨rfl, rfl⟩ := ho
        show fracP s.data.toList = _
        unfold fracP
        rw [if_pos hd, hnd, if_pos h]
        rfl
    have HB := Lib.hid hbad
    have HG := Lib.hid hgood
    have HSR := Lib.hid hSR
    have HZ := Lib.hid hsz
    have hgl : g < w.heap.size := World.block_lt_of_cell? w _ c0
    have hfit : (R.size : Int) ≤ 9223372036854775807 := by unfold maxLen at hsz; omega
    clear hbad hgood hSR hS0 htp hR hRl hT hTl hnd hd ho hsz hn
    by_cases hin : 1 ≤ n ∧ n ≤ 9
    · have hgd := HG.out hin
      have HGD := Lib.hid hgd
      obtain ⟨n1, n9⟩ := hin
      have n1' : ¬ (n : Int) < 1 := by omega
      have n9' : ¬ (9 : Int) < n := by omega
      clear hgd HG HB
      go_enter Tryd.func26, Tryd.ntmps26
      go_wp2_with fail
      refine (hcp _).mono ?_
      rintro e w ⟨rfl, rfl⟩
      clear hcp
      go_wp2_with fail
      refine (htl _).mono ?_
      rintro e w2 ⟨rfl, hb2⟩
      have hS2 := HSR.out.below hb2
      have hg2 : w.grownBy w2 (some g) := gb_trans (gb_set w g 0 (.string R)) (gb_below hb2 _)
      have hnum : Calls Tryd.prog 24 #[.pointer (some ⟨g, 0, none⟩), .int .i64 n, .int .i64 0, .int .i64 999999999] w2 (NumPost g n 0 999999999 (o.map (·.drop 1)) w2) := number_any g n 0 999999999 _ w2 n1 n9 (by omega) hS2
      clear htl hb2 c0 c1 f0 f1 HSR hS2
      go_wp2_with fail
      refine hnum.mono ?_
      rintro e w3 ⟨r, rfl, _, r1, hval, hS3, hg3⟩
      have HVAL := Lib.hid hval
      have HS3 := Lib.hid hS3
      have hgr := gb_trans hg2 hg3
      clear hnum hval hS3 hg2 hg3
      go_wp2
      go_loop [2, 40] (fun v i => ∃ k : Nat, k + n ≤ 9 ∧ i = .int .i64 k ∧ v = .int .i64 ((r * 10 ^ k : Nat) : Int)) (fun _ i => 9 - (RowKit.intOf i).toNat)
      case atStart => exact ⟨0, by omega, rfl, by simp⟩
      case round =>
        obtain ⟨k, hk, rfl, rfl⟩ := hrel
        have hpw : 10 ^ k ≤ 10 ^ 8 := Nat.pow_le_pow_right (by omega) (by omega)
        have hmb : r * 10 ^ k ≤ 999999999 * 10 ^ 8 := Nat.mul_le_mul r1 hpw
        have hsucc : r * 10 ^ (k + 1) = r * 10 ^ k * 10 := by rw [Nat.pow_succ, Nat.mul_assoc]
        have hfin : k = 9 - n → r * 10 ^ k = r * 10 ^ (9 - n) := fun h => by rw [h]
        have HSU := Lib.hid hsucc
        have HFI := Lib.hid hfin
        clear hsucc hfin hpw
        generalize hm : r * 10 ^ k = m at *
        have HM := Lib.hid hm
        clear hm
        have hmb2 : m ≤ 99999999900000000 := by omega
        by_cases hlt : k + n < 9
        · have hlt' : (k : Int) < 9 - n := by omega
          go_wp2
          go_round
          case rel => exact ⟨k + 1, by omega, by go_num, by rw [HSU.out]; go_num⟩
          case measure => simp [RowKit.intOf]; omega
        · have hlt' : ¬ (k : Int) < 9 - n := by omega
          go_wp2
          go_ret
          refine ⟨m, rfl, ?_, ?_, hgr⟩
          · intro v l h
            rw [HGD.out] at h
            rw [Option.map_eq_some_iff] at h
            obtain ⟨⟨v', l'⟩, h1, h2⟩ := h
            have := HVAL.out v' l' h1
            simp only [Prod.mk.injEq] at h2
            rw [← h2.1, ← this]
            exact HFI.out (by omega)
          · rw [HGD.out, Option.map_map]
            exact HS3.out
    · have hbd := HB.out hin
      have HBD := Lib.hid hbd
      clear hbd HG HB
      have hcase : ((n : Int) < 1) ∨ (¬ (n : Int) < 1 ∧ (9 : Int) < n) := by omega
      clear hin
      rcases hcase with n1 | ⟨n1, n9⟩
      all_goals
        go_enter Tryd.func26, Tryd.ntmps26
        go_wp2_with fail
        refine (hcp _).mono ?_
        rintro e w ⟨rfl, rfl⟩
        clear hcp
        go_wp2_with fail
        refine (htl _).mono ?_
        rintro e w2 ⟨rfl, hb2⟩
        have hS2 := HSR.out.below hb2
        have hg2 : w.grownBy w2 (some g) := gb_trans (gb_set w g 0 (.string R)) (gb_below hb2 _)
        clear htl hb2 c0 c1 f0 f1 HSR
        obtain ⟨s2, b2, q0, q1, p0, p1, hz2, _⟩ := hS2
        have HZ2 := Lib.hid hz2
        clear hz2
        go_wp2
        go_ret
        refine ⟨0, rfl, (fun v l h => by rw [HBD.out] at h; cases h), ?_, gb_trans hg2 (gb_set _ _ _ _)⟩
        rw [HBD.out]
        exact st_bad q0 q1 p0 p1 HZ2.out
  · rw [decide_eq_false hd] at hcp
    have hres : (o.bind fracP).map (·.2) = o ∧ ∀ v l, o.bind fracP = some (v, l) → 0 = v := by
      cases o with
      | none => exact ⟨rfl, fun v l h => by cases h⟩
      | some l =>
        obtain ⟨rfl, rfl⟩ := ho
        have e : (some s.data.toList).bind fracP = some (0, s.data.toList) := by
          show fracP s.data.toList = _
          unfold fracP
          rw [if_neg hd]
        rw [e]
        exact ⟨rfl, fun v l h => by cases h; rfl⟩
    obtain ⟨y1, y2⟩ := hres
    have HY1 := Lib.hid y1
    have HY2 := Lib.hid y2
    have HS := Lib.hid hS0
    clear y1 y2 hS0 ho hd
    go_enter Tryd.func26, Tryd.ntmps26
    go_wp2_with fail
    refine (hcp _).mono ?_
    rintro e w ⟨rfl, rfl⟩
    clear hcp
    go_wp2
    go_ret
    refine ⟨0, rfl, HY2.out, ?_, gb_refl _ _⟩
    rw [HY1.out]
    exact HS.out
end Go.Proofs.YtdaadoiedaplaaaDoor
