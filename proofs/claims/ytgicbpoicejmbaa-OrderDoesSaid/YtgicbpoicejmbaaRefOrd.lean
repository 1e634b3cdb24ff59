/- The reference's May, Check, Before, Has, Find: where a string is, or would be. Conditions: strings within the model's lengths. -/
import Derived.Test.YtgicbpoicejmbaaSortWalk
import Derived.Test.YtgicbpoicejmbaaApp
namespace Go.Proofs.Ytgicbpoicejmbaa
open Go.RowKit
theorem wo_drew {w : World} {q n : Nat} : (w.drewN q).drewN n = w.drewN (q + n) := World.drewN_drewN ..

set_option maxHeartbeats 2000000 in
theorem before_any (A : Option Addr) (c : Nat) (xs : List ByteArray) (s : ByteArray) (w : World) {E : Nat} (hx : Rd w E A (sv xs)) (hn : xs.length ≤ 5000) (hz : ∀ s ∈ xs, s.size ≤ maxLen) (hs : s.size ≤ maxLen) :
    Calls Try.prog 35 #[.slice A xs.length c, .string s] w fun e w' => e = .returned (.int .i64 (before xs s : Nat)) ∧ ∃ n, w' = w.drewN n := by
  go_enter Try.func35, Try.ntmps35
  go_wp2
  go_loopw [5] (fun i wr => ∃ k q : Nat, ∃ _ : k ≤ xs.length, i = .int .i64 k ∧ (∀ (j : Nat) (h : j < k), slt (xs[j]'(by omega)) s = true) ∧ wr = w.drewN q) (fun i _ => xs.length - (intOf i).toNat)
  case atStart => exact ⟨0, 0, Nat.zero_le _, rfl, fun _ h => by omega, rfl⟩
  case round =>
    obtain ⟨k, q, hk, rfl, he, rfl⟩ := hrel
    have HE := Lib.hid he
    clear he
    by_cases hlt : k < xs.length
    · obtain ⟨b, off, rfl, hb, hc⟩ := hx.str hlt
      have c1 := hc k hlt
      have hl := less_any xs[k] s (w.drewN q) (hz _ (List.getElem_mem hlt)) hs
      clear hc
      obtain ⟨F, hF⟩ : ∃ F, slt xs[k] s = F := ⟨_, rfl⟩
      rw [hF] at hl
      have HF := Lib.hid hF
      clear hF hx
      go_wp2_with fail
      refine hl.mono ?_
      rintro e w1 ⟨rfl, n, rfl⟩
      clear hl
      cases F
      · go_wp2
        go_ret
        exact ⟨ret_int (by rw [before_eq (by omega) HE.out (fun _ => HF.out)]), by first | exact ex_drew | exact ex_drew0⟩
      · go_wp2
        go_roundw
        case rel => exact ⟨k + 1, q + n, by omega, by go_num, fun j hj => by
          rcases Nat.lt_or_ge j k with h | h
          · exact HE.out j h
          · obtain rfl : j = k := by omega
            exact HF.out, by first | rfl | exact wo_drew⟩
        case measure => simp [intOf]; omega
    · obtain rfl : k = xs.length := by omega
      go_wp2
      go_ret
      exact ⟨ret_int (by rw [before_eq (Nat.le_refl _) HE.out (fun h => by omega)]), ex_drew0⟩
theorem has_any (A : Option Addr) (c : Nat) (xs : List ByteArray) (s : ByteArray) (w : World) {E : Nat} (hx : Rd w E A (sv xs)) (hn : xs.length ≤ 5000) (hz : ∀ s ∈ xs, s.size ≤ maxLen) (hs : s.size ≤ maxLen) :
    Calls Try.prog 36 #[.slice A xs.length c, .string s] w fun e w' => e = .returned (.bool (hasB xs s)) ∧ ∃ n, w' = w.drewN n := by
  have hbf := before_any A c xs s w hx hn hz hs
  by_cases hb : before xs s < xs.length
  · have HH := Lib.hid (hasB_at hb)
    obtain ⟨b, off, rfl, hbb, hc⟩ := hx.str hb
    have c1 := hc _ hb
    clear hc hx
    generalize hk : before xs s = k at *
    have HK := Lib.hid hk
    clear hk
    go_enter Try.func36, Try.ntmps36
    go_wp2_with fail
    refine hbf.mono ?_
    rintro e w1 ⟨rfl, n, rfl⟩
    clear hbf
    go_wp2
    go_ret
    exact ⟨ret_bool (by rw [HH.out, ba_beq]), ex_drew0⟩
  · have HH := Lib.hid (hasB_end hb)
    generalize hk : before xs s = k at *
    have HK := Lib.hid hk
    clear hk
    go_enter Try.func36, Try.ntmps36
    go_wp2_with fail
    refine hbf.mono ?_
    rintro e w1 ⟨rfl, n, rfl⟩
    clear hbf
    go_wp2
    go_ret
    exact ⟨ret_bool (by rw [HH.out]), ex_drew0⟩
set_option maxHeartbeats 2000000 in
theorem may_any (A : Option Addr) (c : Nat) (xs : List ByteArray) (w : World) {E : Nat} (hx : Rd w E A (sv xs)) (hn : xs.length ≤ 5000) (hz : ∀ s ∈ xs, s.size ≤ maxLen) :
    Calls Try.prog 34 #[.slice A xs.length c] w fun e w' => e = .returned (.bool (okB xs)) ∧ ∃ n, w' = w.drewN n := by
  by_cases hm : 4096 < xs.length
  · have HS := Lib.hid (okB_many hm)
    have hd : decide ((xs.length : Int) ≤ 4096) = false := by simp; omega
    have hd2 : (1 : Int) < xs.length := by omega
    go_enter Try.func34, Try.ntmps34
    go_wp2
    refine wp_loop_rounds 1 ?_
    rw [rounds_succ]
    go_wp2
    go_ret
    exact ⟨ret_bool HS.out.symm, ex_same⟩
  · have hm' : (xs.length : Int) ≤ 4096 := by omega
    go_enter Try.func34, Try.ntmps34
    go_wp2
    go_loopw [3] (fun i wr => ∃ k q : Nat, i = .int .i64 (k + 1 : Nat) ∧ (k = 0 ∨ k < xs.length) ∧ (∀ (i : Nat) (hi : i + 1 < xs.length), i + 1 ≤ k → slt xs[i] xs[i + 1] = true) ∧ wr = w.drewN q) (fun i _ => xs.length - (intOf i).toNat)
    case atStart => exact ⟨0, 0, rfl, .inl rfl, fun _ _ h => by omega, rfl⟩
    case round =>
      obtain ⟨k, q, rfl, hk, he, hq⟩ := hrel
      have hxq : Rd wr E A (sv xs) := by rw [hq]; exact hx.drewN q
      have HE := Lib.hid he
      have HQ := Lib.hid hq
      clear he hq hx
      by_cases hlt : k + 1 < xs.length
      · obtain ⟨b, off, rfl, hb, hc⟩ := hxq.str hlt
        have c1 := hc k (by omega)
        have c2 := hc (k + 1) hlt
        have hl := fun W => less_any xs[k] xs[k + 1] W (hz _ (List.getElem_mem (by omega))) (hz _ (List.getElem_mem hlt))
        clear hc
        obtain ⟨F, hF⟩ : ∃ F, slt xs[k] xs[k + 1] = F := ⟨_, rfl⟩
        rw [hF] at hl
        have HF := Lib.hid hF
        clear hF hxq
        have e1 : (↑k + 1 - 1 : Int) = k := by omega
        go_wp2
        go_quiet ((go_at_call 27; exact Calls.quiet_of (hl _)))
        cases F
        · go_wp2
          go_ret
          refine ⟨ret_bool ?_, ?_⟩
          · rw [okB_not hlt HF.out]
          · rw [HQ.out]; exact ex_drew
        · go_wp2
          go_roundw
          case rel =>
            refine ⟨k + 1, _, by go_num, .inr hlt, fun i hi h => ?_, by rw [HQ.out]; exact wo_drew⟩
            rcases Nat.lt_or_ge i k with h2 | h2
            · exact HE.out i hi h2
            · obtain rfl : i = k := by omega
              exact HF.out
          case measure => simp [intOf]; omega
      · go_wp2
        go_ret
        refine ⟨ret_bool ?_, by rw [HQ.out]; exact ex_drew0⟩
        rw [okB_yes (by omega) (fun i hi => HE.out i hi (by omega))]
end Go.Proofs.Ytgicbpoicejmbaa
