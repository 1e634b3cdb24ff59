/- The reference's number, in plain words. Conditions: those of each theorem. -/
import Derived.Test.YtdaadoiedaplaaaDoorRefDay
namespace Go.Proofs.YtdaadoiedaplaaaDoor
open Go.RowKit Go.Lib
/-- so many digits at a place, or -1 -/
def numR (l : List UInt8) (a k : Nat) : Int := if a + k ≤ l.length ∧ ((l.drop a).take k).all isDig = true then (valL ((l.drop a).take k) : Int) else -1
theorem take_snoc (l : List UInt8) (a j : Nat) (h : a + j < l.length) : (l.drop a).take (j + 1) = (l.drop a).take j ++ [l[a + j]] := by
  rw [List.take_succ_eq_append_getElem (by simp; omega), List.getElem_drop]
theorem numR_bad (l : List UInt8) (a k j : Nat) (hj : j < k) (h : a + j < l.length) (hb : isDig l[a + j] = false) : numR l a k = -1 := by
  unfold numR
  rw [if_neg]
  rintro ⟨h1, h2⟩
  rw [List.all_eq_true] at h2
  have := h2 l[a + j] (by rw [List.mem_take_iff_getElem]; exact ⟨j, by simp; omega, by rw [List.getElem_drop]⟩)
  rw [this] at hb
  cases hb
set_option maxHeartbeats 2000000 in
theorem number_ref (s : ByteArray) (a k : Nat) (ha : a ≤ 100) (hk : k ≤ 9) (hs : s.size ≤ maxLen) (w : World) :
    Calls Tryd.prog 29 #[.string s, .int .i64 a, .int .i64 k] w fun e w' => e = .returned (.int .i64 (numR s.data.toList a k)) ∧ w = w' := by
  unfold maxLen at hs
  have hlen := ba_len s
  by_cases hle : a + k ≤ s.size
  · have hn1 : ((s.size : Int) < a + k) = False := by simp; omega
    obtain ⟨V, hV⟩ : ∃ V, numR s.data.toList a k = V := ⟨_, rfl⟩
    have HV := Lib.hid hV
    rw [hV]
    clear hV
    go_enter Tryd.func29, Tryd.ntmps29
    go_wp2_with fail
    go_loopw [7, 8] (fun n i wr => ∃ j : Nat, j ≤ k ∧ i = .int .i64 ((a + j : Nat) : Int) ∧ n = .int .i64 (valL ((s.data.toList.drop a).take j) : Nat) ∧ ((s.data.toList.drop a).take j).all isDig = true ∧ w = wr) (fun _ i _ => a + k - (RowKit.intOf i).toNat)
    case atStart => exact ⟨0, Nat.zero_le _, by go_num, by rfl, rfl, by trivial⟩
    case round =>
      obtain ⟨j, hj, rfl, rfl, hall, rfl⟩ := hrel
      have hvb := val_lt _ hall rfl
      by_cases hlt : j < k
      · have hix : a + j < s.data.toList.length := by omega
        have hpow : valL ((s.data.toList.drop a).take j) < 1000000000 := by
          refine Nat.lt_of_lt_of_le hvb ?_
          rw [show (1000000000 : Nat) = 10 ^ 9 from rfl]
          exact Nat.pow_le_pow_right (by omega) (by rw [List.length_take]; omega)
        clear hvb
        have hix' : ((a + j : Nat) : Int) < s.size := by omega
        have he : s.data.toList[a + j] = s[a + j]'(by omega) := by simp; rfl
        have hsn := take_snoc s.data.toList a j hix
        have hbad : (s[a + j]'(by omega)).toNat < 48 ∨ 57 < (s[a + j]'(by omega)).toNat → V = -1 := by
          intro h
          rw [← HV.out]
          refine numR_bad _ a k j hlt hix ?_
          rw [he]
          unfold isDig
          rw [decide_eq_false_iff_not]
          omega
        have hgood : 48 ≤ (s[a + j]'(by omega)).toNat ∧ (s[a + j]'(by omega)).toNat ≤ 57 → ((s.data.toList.drop a).take (j + 1)).all isDig = true ∧ valL ((s.data.toList.drop a).take (j + 1)) = valL ((s.data.toList.drop a).take j) * 10 + ((s[a + j]'(by omega)).toNat - 48) := by
          intro h
          rw [hsn, he, valL_snoc, List.all_append, hall]
          refine ⟨?_, ?_⟩
          · simp only [List.all_cons, List.all_nil, Bool.and_true, Bool.true_and]
            unfold isDig
            rw [decide_eq_true_iff]
            exact h
          · unfold dval
            omega
        have HBad := Lib.hid hbad
        have HGood := Lib.hid hgood
        clear hbad hgood hsn he
        go_wp2_with fail
        · go_ret
          exact ⟨ret_int (HBad.out (by omega)).symm, rfl⟩
        · obtain ⟨q1, q2⟩ := HGood.out (by omega)
          refine ⟨⟨j + 1, hlt, by go_num, num_eq ?_, q1, by trivial⟩, ?_⟩
          · rw [q2]
            omega
          · simp [RowKit.intOf]; omega
        · go_ret
          exact ⟨ret_int (HBad.out (by omega)).symm, rfl⟩
      · obtain rfl : j = k := by omega
        have hV2 : V = (valL ((s.data.toList.drop a).take j) : Nat) := by
          rw [← HV.out]
          unfold numR
          rw [if_pos ⟨by omega, hall⟩]
        clear hvb
        go_wp2_with fail
        go_ret
        exact ⟨ret_int (by rw [hV2]), rfl⟩
  · have hV : numR s.data.toList a k = -1 := by
      unfold numR
      rw [if_neg (fun e => hle (by have := e.1; omega))]
    rw [hV]
    clear hV
    have hn1 : (s.size : Int) < a + k := by omega
    go_enter Tryd.func29, Tryd.ntmps29
    go_wp2_with fail
    go_ret
    exact ⟨rfl, rfl⟩
end Go.Proofs.YtdaadoiedaplaaaDoor
