/- provostref03.text, among. Conditions: at most 2,000,000 bytes (text); lengths within the model's. -/
import Derived.Test.YtmaefhnlipcmoaaDoorCel
import Derived.Test.YtmaefhnlipcmoaaDoorRefPoints
namespace Go.Proofs.YtmaefhnlipcmoaaDoor
open Go.RowKit
theorem text_ref (s : ByteArray) (w : World) (hs : s.size ≤ 2000000) : Calls Tryd.prog 57 #[.string s] w fun e w' => e = .returned (.bool (textOk s)) ∧ Below w.heap.size w w' := by
  have hp := points_any s w hs
  obtain ⟨V, hV⟩ : ∃ V, textOk s = V := ⟨_, rfl⟩
  have HV := Lib.hid hV
  rw [hV]
  clear hV
  by_cases hle : s.size ≤ 16384
  · have hI : (s.size : Int) ≤ 16384 := by omega
    go_enter Tryd.func57, Tryd.ntmps57
    go_wp2_with fail
    refine hp.mono ?_
    rintro e w1 ⟨hP, hb⟩
    rcases hP with ⟨h, A, c, rfl⟩ | ⟨h, rfl⟩
    · have hv : V = true := by rw [← HV.out, textOk, h]; simp [hle]
      subst hv
      clear HV h
      go_wp2
      go_ret
      exact ⟨rfl, hb⟩
    · have hv : V = false := by rw [← HV.out, textOk, h]; simp
      subst hv
      clear HV h
      go_wp2
      go_ret
      exact ⟨rfl, hb⟩
  · have hI : ¬ (s.size : Int) ≤ 16384 := by omega
    have hv : V = false := by rw [← HV.out, textOk]; simp [hle]
    subst hv
    clear HV
    go_enter Tryd.func57, Tryd.ntmps57
    go_wp2_with fail
    refine hp.mono ?_
    rintro e w1 ⟨hP, hb⟩
    rcases hP with ⟨h, A, c, rfl⟩ | ⟨h, rfl⟩
    · clear h
      go_wp2
      go_ret
      exact ⟨ret_bool (by simp; omega), hb⟩
    · clear h
      go_wp2
      go_ret
      exact ⟨rfl, hb⟩
def amongL (ns : List ByteArray) (s : ByteArray) : Bool := ns.any fun x => decide (x = s)
theorem among_drop {ns : List ByteArray} {s : ByteArray} {k : Nat} (h : k < ns.length) : amongL (ns.drop k) s = (decide (ns[k] = s) || amongL (ns.drop (k + 1)) s) := by
  unfold amongL
  rw [List.drop_eq_getElem_cons h, List.any_cons]
set_option maxHeartbeats 1000000 in
theorem among_ref (A : Option Addr) (c : Nat) (ns : List ByteArray) (s : ByteArray) (w : World) {B : Nat} (hx : Rd w B A (sv ns)) (hn : ns.length ≤ maxLen) :
    Calls Tryd.prog 58 #[.slice A ns.length c, .string s] w fun e w' => e = .returned (.bool (amongL ns s)) ∧ w' = w := by
  unfold maxLen at hn
  obtain ⟨V, hV⟩ : ∃ V, amongL ns s = V := ⟨_, rfl⟩
  have HV := Lib.hid hV
  rw [hV]
  clear hV
  go_enter Tryd.func58, Tryd.ntmps58
  go_wp2
  go_loopw [5] (fun i wr => ∃ k : Nat, k ≤ ns.length ∧ i = .int .i64 k ∧ amongL (ns.drop k) s = V ∧ wr = w) (fun i _ => ns.length - (intOf i).toNat)
  case atStart => exact ⟨0, Nat.zero_le _, rfl, by rw [List.drop_zero, HV.out], rfl⟩
  case round =>
    obtain ⟨k, hk, rfl, hd, rfl⟩ := hrel
    by_cases hlt : k < ns.length
    · rw [among_drop hlt] at hd
      obtain ⟨b, off, rfl, hb, hc⟩ := hx.str hlt
      have hck := hc k hlt
      obtain ⟨x, hxk⟩ : ∃ x, ns[k] = x := ⟨_, rfl⟩
      rw [hxk] at hd hck
      have hq := ba_beq x s
      clear hc hxk hx
      by_cases he : x = s
      · rw [decide_eq_true he] at hd hq
        rw [Bool.true_or] at hd
        subst hd
        clear HV he
        go_wp2
        go_ret
        exact ⟨rfl, rfl⟩
      · rw [decide_eq_false he] at hd hq
        rw [Bool.false_or] at hd
        have HD := Lib.hid hd
        clear hd he
        go_wp2
        go_roundw
        case rel => exact ⟨k + 1, hlt, by go_num, HD.out, trivial⟩
        case measure => simp [intOf]; omega
    · obtain rfl : k = ns.length := by omega
      rw [List.drop_of_length_le (Nat.le_refl _)] at hd
      have hv : V = false := by rw [← hd]; rfl
      subst hv
      clear hd HV
      go_wp2
      go_ret
      exact ⟨rfl, rfl⟩
end Go.Proofs.YtmaefhnlipcmoaaDoor
