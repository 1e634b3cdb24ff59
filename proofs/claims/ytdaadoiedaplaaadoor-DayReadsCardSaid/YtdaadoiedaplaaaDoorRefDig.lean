/- The reference's digits, in the program's own terms. Conditions: a number that is none below 0. -/
import Derived.Test.YtdaadoiedaplaaaDoorRefDate
namespace Go.Proofs.YtdaadoiedaplaaaDoor
open Go.RowKit Go.Lib
theorem dg_cons : ∀ (j n : Nat), dg n (j + 1) = UInt8.ofNat (48 + n / 10 ^ j % 10) :: dg n j
  | 0, n => by simp [dg]
  | j + 1, n => by
    have ih := dg_cons j (n / 10)
    rw [dg, ih, Nat.div_div_eq_div_mul, show 10 * 10 ^ j = 10 ^ (j + 1) by rw [Nat.pow_succ, Nat.mul_comm]]
    rfl
theorem conv1 (W : World) (q : Nat) (h : q < 10) :
    (convert 45 9 (.slice (some ⟨W.heap.size, 0, none⟩) 1 1)).run Tryd.prog (W.alloc (.cells #[.int .u8 (48 + (q : Int))] 5)) = .ok (.string ⟨[UInt8.ofNat (48 + q)].toArray⟩) (W.alloc (.cells #[.int .u8 (48 + (q : Int))] 5)) := by
  refine run_convert_bytes_back (P := Tryd.prog) _ 45 9 5 ⟨W.heap.size, 0, none⟩ 1 [UInt8.ofNat (48 + q)] Tryd.underlying45 Tryd.underlying5 Tryd.underlying9 (fun j hj => ?_)
  have e1 : ((UInt8.ofNat (48 + q)).toNat : Int) = 48 + (q : Int) := by rw [u8_48 q h]; omega
  have hadd : (⟨W.heap.size, 0, none⟩ : Addr).add j = ⟨W.heap.size, j, none⟩ := by unfold Addr.add; split <;> simp_all
  rw [hadd, World.cell?_alloc_at _ _ _ _ rfl]
  obtain rfl : j = 0 := by have : j < 1 := hj; omega
  show some (Value.int .u8 (48 + (q : Int))) = some (.int .u8 ((UInt8.ofNat (48 + q)).toNat : Int))
  rw [e1]
set_option maxHeartbeats 2000000 in
set_option maxRecDepth 100000 in
theorem digits_ref (n k : Nat) (hn : n ≤ 1000000000) (hk : k ≤ 9) (w : World) :
    Calls Tryd.prog 53 #[.int .i64 n, .int .i64 k] w fun e w' => e = .returned (.string ⟨(dg n k).toArray⟩) ∧ Below w.heap.size w w' := by
  go_enter Tryd.func53, Tryd.ntmps53
  go_wp2_with fail
  go_loopw [0, 5, 6] (fun a s i wr => ∃ j : Nat, j ≤ k ∧ i = .int .i64 j ∧ s = .string ⟨(dg n j).toArray⟩ ∧ a = .int .i64 ((n / 10 ^ j : Nat) : Int) ∧ Below w.heap.size w wr) (fun _ _ i _ => k - (RowKit.intOf i).toNat)
  case atStart => exact ⟨0, Nat.zero_le _, rfl, rfl, by simp, Below.refl _ _⟩
  case round =>
    obtain ⟨j, hj, rfl, rfl, rfl, hb⟩ := hrel
    have HB := Lib.hid hb
    clear hb
    obtain ⟨q, hq⟩ : ∃ q, n / 10 ^ j = q := ⟨_, rfl⟩
    have hqn : q ≤ 1000000000 := by rw [← hq]; exact Nat.le_trans (Nat.div_le_self _ _) hn
    rw [hq]
    have hl := dg_len n j
    have HD := Lib.hid (dg_cons j n)
    have HQ := Lib.hid hq
    clear hq
    by_cases hlt : j < k
    · have hs1 : ¬ 9223372036854775807 < 1 + (dg n j).length := by omega
      clear hl
      go_wp2_with fail
      have hc := conv1 wr (q % 10) (by omega)
      rw [show ((q % 10 : Nat) : Int) = (q : Int) % 10 by omega] at hc
      rw [hc]
      clear hc
      go_wp2_with fail
      go_roundw
      case rel =>
        refine ⟨j + 1, hlt, by go_num, ?_, ?_, bt HB.out HB.out.size (bAl _ _)⟩
        · rw [HD.out, HQ.out]
          have e8 : UInt8.ofNat (48 + q % 10) = 48 + UInt8.ofNat (q % 10) := by simp
          rw [e8]
          exact congrArg Value.string (app_lists [48 + UInt8.ofNat (q % 10)] (dg n j))
        · refine num_eq ?_
          rw [Nat.pow_succ, ← Nat.div_div_eq_div_mul, HQ.out]
          omega
      case measure => simp [RowKit.intOf]; omega
    · obtain rfl : j = k := by omega
      go_wp2_with fail
      go_ret
      exact ⟨rfl, HB.out⟩
end Go.Proofs.YtdaadoiedaplaaaDoor
