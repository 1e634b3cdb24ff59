/- The reference's Where. Conditions: at most 17,000 bytes. -/
import Derived.Test.YtllfgkfcbicnlaaDoorRefPoints
import Derived.Test.YtllfgkfcbicnlaaDoorWhereBad
namespace Go.Proofs.YtllfgkfcbicnlaaDoor
open Go.RowKit Go.Lib
theorem refwhere_check (s : ByteArray) (a : Int) (w : World) (hs : s.size ≤ 17000) (c : Nat) (hc : checkV s = c) (h0 : c ≠ 0) :
    Calls Tryd.prog 16 #[.string s, .int .i64 a] w fun e w' => e = .returned (.tuple #[.int .i64 0, .int .i64 0, .int .i64 c]) ∧ Below w.heap.size w w' := by
  have hcc := refcheck_any s w hs
  rw [hc] at hcc
  clear hc
  have hne : ((c : Int) == 0) = false := by rw [beq_eq_false_iff_ne]; omega
  have hne2 : ((c : Int) != 0) = true := by rw [bne, hne]; rfl
  go_enter Tryd.func16, Tryd.ntmps16
  go_wp2_with fail
  refine hcc.mono ?_
  rintro e w1 ⟨rfl, hb1⟩
  go_wp2
  go_ret3
  exact ⟨rfl, hb1⟩
/-- what Where tells of a place of a text -/
def whereV (s : ByteArray) (P X : Nat → Nat) (m : Nat) (a : Int) (v : Nat × Nat × Nat) : Prop :=
  (∃ k, k ≤ m ∧ a = (P k : Nat) ∧ v = ((lcs s P X k).1, (lcs s P X k).2, 0)) ∨ ((∀ k, k ≤ m → a ≠ (P k : Nat)) ∧ v = (0, 0, 2))
set_option maxHeartbeats 4000000 in
theorem refwhere_any (s : ByteArray) {m : Nat} {P X : Nat → Nat} (hch : Chain (byt s) s.size m P X) (hz : s.size ≤ 16384) (a : Int) (w : World) (v : Nat × Nat × Nat) (hv : whereV s P X m a v) :
    Calls Tryd.prog 16 #[.string s, .int .i64 a] w fun e w' => e = .returned (.tuple #[.int .i64 v.1, .int .i64 v.2.1, .int .i64 v.2.2]) ∧ Below w.heap.size w w' := by
  have hcc := refcheck_any s w (by omega)
  have hck : checkV s = 0 := by
    unfold checkV
    rw [if_neg (by omega), if_pos hch.validD]
  rw [hck] at hcc
  have hsI : (s.size : Int) ≤ 16384 := by omega
  clear hck
  have HC := Lib.hid hch
  have HV := Lib.hid hv
  clear hch hv
  go_enter Tryd.func16, Tryd.ntmps16
  go_wp2_with fail
  refine hcc.mono ?_
  rintro e w1 ⟨rfl, hb1⟩
  go_wp2
  go_loopw [8, 9, 10] (fun l c i wr => ∃ j, j ≤ m ∧ l = .int .i64 (lcs s P X j).1 ∧ c = .int .i64 (lcs s P X j).2 ∧ i = .int .i64 (P j : Nat) ∧ (∀ k, k < j → (P k : Int) < a) ∧ Below w.heap.size w wr) (fun _ _ i _ => s.size - (RowKit.intOf i).toNat)
  case atStart => exact ⟨0, Nat.zero_le _, rfl, rfl, by rw [HC.out.1]; rfl, by intro k hk; omega, hb1⟩
  case round =>
    obtain ⟨j, hj, rfl, rfl, rfl, hlt, hb⟩ := hrel
    have hle := HC.out.mono hj (Nat.le_refl _)
    rw [HC.out.2.1] at hle
    have hbd := lcs_bd s P X j
    have hge := HC.out.ge hj
    by_cases hgo : (P j : Int) < a ∧ P j < s.size
    · obtain ⟨ga, gb⟩ := hgo
      have hjm : j < m := by
        rcases Nat.lt_or_ge j m with g | g
        · exact g
        · obtain rfl : j = m := by omega
          rw [HC.out.2.1] at gb
          omega
      obtain ⟨q1, q2⟩ := HC.out.2.2 j hjm
      have q3 := q2.end_le
      obtain ⟨d, hd⟩ : ∃ d, P (j + 1) = P j + d := ⟨P (j + 1) - P j, by omega⟩
      have hd2 : P (j + 1) - P j = d := by omega
      rw [hd2] at q2 q3
      have hn := refnext_any s (P j : Nat) wr (by omega)
      rw [next_of_at q2] at hn
      have hnext : lcs s P X (j + 1) = if endsB s (X j) (P j + d) = true then ((lcs s P X j).1 + 1, 1) else ((lcs s P X j).1, (lcs s P X j).2 + 1) := by rw [lcs, hd]
      have hlt2 : ∀ k, k < j + 1 → (P k : Int) < a := by
        intro k hk
        by_cases e : k = j
        · subst e; exact ga
        · exact hlt k (by omega)
      obtain ⟨L, hL⟩ : ∃ L, (lcs s P X j).1 = L := ⟨_, rfl⟩
      obtain ⟨C, hC⟩ : ∃ C, (lcs s P X j).2 = C := ⟨_, rfl⟩
      have hr1 : L ≤ 16385 := by omega
      have hr2 : C ≤ 16385 := by omega
      rw [hL, hC] at hnext
      rw [hL, hC]
      have HN := Lib.hid hnext
      have HD := Lib.hid hd
      have HLT := Lib.hid hlt2
      obtain ⟨p, hp⟩ : ∃ p, P j = p := ⟨_, rfl⟩
      rw [hp] at ga gb hn HN HD q3 ⊢
      obtain ⟨x, hx⟩ : ∃ x, X j = x := ⟨_, rfl⟩
      rw [hx] at hn HN
      clear hnext hd hlt2 hL hC hbd q1 q2 hd2 hlt hp hx hle hge
      have gbI : (p : Int) < s.size := by omega
      go_wp2_with fail
      refine hn.mono ?_
      rintro e w2 ⟨rfl, hb2⟩
      have hB2 := hb.trans (hb2.mono hb.size)
      clear hn hb2
      obtain ⟨b10, h10⟩ : ∃ b, ((x : Int) == 10) = b := ⟨_, rfl⟩
      obtain ⟨b13, h13⟩ : ∃ b, ((x : Int) == 13) = b := ⟨_, rfl⟩
      have k10 : (x == 10) = b10 := by rw [← h10, Bool.eq_iff_iff]; simp; omega
      have k13 : (x == 13) = b13 := by rw [← h13, Bool.eq_iff_iff]; simp; omega
      by_cases h1 : p + d < s.size
      · have g1 : (p : Int) + d < s.size := by omega
        have g2 : ¬ (p : Int) + d = s.size := by omega
        obtain ⟨lf, hlf⟩ : ∃ b, ((s[p + d].toNat : Int) != 10) = b := ⟨_, rfl⟩
        have klf : (s[p + d].toNat != 10) = lf := by rw [← hlf, Bool.eq_iff_iff]; simp; omega
        have hE : endsB s x (p + d) = (b10 || (b13 && lf)) := by
          have : (p + d == s.size) = false := by simp; omega
          unfold endsB
          rw [this, k10, k13, byt_get s _ h1, klf]
          simp
        have hn2 := HN.out
        rw [hE] at hn2
        have HN2 := Lib.hid hn2
        clear hE k10 k13 klf hn2 HN
        cases b10 <;> cases b13 <;> cases lf
        all_goals
          have hn3 := HN2.out
          simp only [Bool.not_true, Bool.not_false, Bool.and_true, Bool.and_false, Bool.or_true, Bool.or_false, Bool.false_eq_true, if_true, if_false] at hn3
          have HN3 := Lib.hid hn3
          clear HN2 hn3
          go_wp2
          go_roundw
          case rel => exact ⟨j + 1, by omega, by first | (rw [HN3.out]; done) | (rw [HN3.out]; rfl) | (rw [HN3.out]; go_num), by first | (rw [HN3.out]; done) | (rw [HN3.out]; rfl) | (rw [HN3.out]; go_num), by rw [HD.out] <;> go_num, HLT.out, hB2⟩
          case measure => simp [RowKit.intOf]; omega
      · have h1' : p + d = s.size := by omega
        have g2 : (p : Int) + d = s.size := by omega
        have hE : endsB s x (p + d) = (b10 || b13) := by
          have : (p + d == s.size) = true := by simp; omega
          unfold endsB
          rw [this, k10, k13]
          simp
        have hn2 := HN.out
        rw [hE] at hn2
        have HN2 := Lib.hid hn2
        clear hE k10 k13 hn2 HN h1'
        cases b10 <;> cases b13
        all_goals
          have hn3 := HN2.out
          simp only [Bool.or_true, Bool.or_false, Bool.false_eq_true, if_true, if_false] at hn3
          have HN3 := Lib.hid hn3
          clear HN2 hn3
          go_wp2
          go_roundw
          case rel => exact ⟨j + 1, by omega, by first | (rw [HN3.out]; done) | (rw [HN3.out]; rfl) | (rw [HN3.out]; go_num), by first | (rw [HN3.out]; done) | (rw [HN3.out]; rfl) | (rw [HN3.out]; go_num), by rw [HD.out] <;> go_num, HLT.out, hB2⟩
          case measure => simp [RowKit.intOf]; omega
    · have hcase : ((P j : Int) = a ∧ v = ((lcs s P X j).1, (lcs s P X j).2, 0)) ∨ ((P j : Int) ≠ a ∧ v = (0, 0, 2)) := by
        rcases HV.out with ⟨k, hk, he, hv⟩ | ⟨hn, hv⟩
        · left
          have : k = j := by
            rcases Nat.lt_trichotomy k j with g | g | g
            · have := hlt k g; omega
            · exact g
            · have h1 := HC.out.mono (i := j + 1) (j := k) (by omega) hk
              have h2 := (HC.out.2.2 j (by omega)).1
              have h3 := HC.out.lt (i := j) (by omega)
              exact absurd ⟨by omega, h3⟩ hgo
          subst this
          exact ⟨he.symm, hv⟩
        · exact .inr ⟨fun e => hn j hj e.symm, hv⟩
      have hstop : ¬ (P j : Int) < a ∨ (s.size : Int) ≤ (P j : Nat) := by omega
      obtain ⟨L, hL⟩ : ∃ L, (lcs s P X j).1 = L := ⟨_, rfl⟩
      obtain ⟨C, hC⟩ : ∃ C, (lcs s P X j).2 = C := ⟨_, rfl⟩
      obtain ⟨p, hp⟩ : ∃ p, P j = p := ⟨_, rfl⟩
      rw [hL, hC, hp] at hcase
      rw [hp] at hstop hle
      rw [hL, hC, hp]
      clear hL hC hp hlt hgo hbd hge
      rcases hcase with ⟨he, hv⟩ | ⟨he, hv⟩
      · have HV2 := Lib.hid hv
        subst he
        clear hv hstop
        go_wp2
        go_ret3
        exact ⟨by rw [HV2.out]; rfl, hb⟩
      · have HV2 := Lib.hid hv
        clear hv
        rcases hstop with h1 | h1
        · go_wp2
          go_ret3
          exact ⟨by rw [HV2.out]; rfl, hb⟩
        · by_cases h2 : (p : Int) < a
          · go_wp2
            go_ret3
            exact ⟨by rw [HV2.out]; rfl, hb⟩
          · go_wp2
            go_ret3
            exact ⟨by rw [HV2.out]; rfl, hb⟩
end Go.Proofs.YtllfgkfcbicnlaaDoor
