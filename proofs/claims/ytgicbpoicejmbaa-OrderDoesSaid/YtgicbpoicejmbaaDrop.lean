/- Contracts of slices.Delete (one string) over rows that the call owns, of order.Drop, and of the statements' size guard. Conditions: a list of at most 4,096 strings where it rises. -/
import Derived.Test.YtgicbpoicejmbaaPut
namespace Go.Proofs.Ytgicbpoicejmbaa
open Go.RowKit

theorem encStr_str (s : ByteArray) : encStr s.data.toList = .string s := by
  rfl
theorem strsOf_list (xs : List ByteArray) : (Lib.strsOf (fun i => xs.getD i ByteArray.empty) xs.length) = xs.map (fun s => s.data.toList) := by
  apply List.ext_getElem
  · simp [Lib.strsOf]
  · intro i h1 h2
    have h3 : i < xs.length := by simpa using h2
    simp [Lib.strsOf, List.getD, List.getElem?_eq_getElem h3]

set_option maxHeartbeats 1000000 in
theorem delete_own (w : World) (base n c i : Nat) (A : Option Addr) (xs : List ByteArray) (hown : w.ownsRow base 9 1 (.slice A n c) n (sv xs)) (hi : i < n) :
    Calls Try.prog 31 #[.slice A n c, .int .i64 i, .int .i64 (i + 1 : Nat)] w fun e w' =>
      ∃ v, e = .returned v ∧ w'.ownsRow base 9 1 v (n - 1) (sv (xs.take i ++ xs.drop (i + 1))) ∧ Below base w w' := by
  have hlen : xs.length = n := by have := hown.1; rw [sv_len] at this; omega
  obtain ⟨h0, h2⟩ := hown
  rcases h2 with ⟨h3, rfl⟩ | ⟨g, cap, cur, h3, hg, hh, hnc, hcm, hcs, ht⟩
  · omega
  · simp only [Value.slice.injEq] at h3
    obtain ⟨rfl, _, rfl⟩ := h3
    rw [Nat.mul_one] at hcs ht
    subst hlen
    refine (Try.slices_Delete_string_cells g 0 xs.length c i (i + 1) (fun j => xs.getD j ByteArray.empty) w hnc (by unfold maxLen at hcm; omega) (by omega) (by omega) (fun j hj => ?_) (fun j _ => by simp [World.frozen?, hh])).mono ?_
    · simp only [World.cell?, hh, Nat.zero_add]
      have : (cur.toList.take xs.length)[j]? = (sv xs)[j]? := by rw [ht]
      rw [List.getElem?_take, if_pos hj] at this
      simp only [Array.getElem?_toList] at this
      rw [this]
      simp [sv, List.getElem?_eq_getElem hj]
    · rintro e w' ⟨rfl, q, rfl⟩
      have e1 : xs.length - (i + 1 - i) = xs.length - 1 := by omega
      rw [e1, strsOf_list]
      refine ⟨_, rfl, ?_, (Below.of_drewN base w q).trans (below_setCells' hg _ _ _)⟩
      have hh' := heap_setCells (((xs.map (fun s : ByteArray => s.data.toList)).take i ++ (xs.map (fun s : ByteArray => s.data.toList)).drop (i + 1) ++ List.replicate (i + 1 - i) []).map encStr) 0 (w.drewN q) cur hh
      have hl : (((xs.map (fun s : ByteArray => s.data.toList)).take i ++ (xs.map (fun s : ByteArray => s.data.toList)).drop (i + 1) ++ List.replicate (i + 1 - i) []).map encStr).length = xs.length := by
        simp; omega
      refine ⟨by simp [sv_len]; omega, .inr ⟨g, c, _, rfl, hg, hh', by omega, hcm, by rw [putA_size]; omega, ?_⟩⟩
      rw [Nat.mul_one, putA_list _ _ _ (by omega), List.take_zero, List.nil_append, List.map_append, List.map_append]
      have e2 : ((xs.map (fun s : ByteArray => s.data.toList)).take i).map encStr ++ ((xs.map (fun s : ByteArray => s.data.toList)).drop (i + 1)).map encStr = sv (xs.take i ++ xs.drop (i + 1)) := by
        simp only [sv, List.map_append, ← List.map_take, ← List.map_drop, List.map_map]
        rfl
      rw [e2, List.append_assoc]
      exact List.take_left' (by simp [sv_len]; omega)

def dropL (xs : List ByteArray) (s : ByteArray) : List ByteArray :=
  if okB xs = true then (if hasB xs s = true then xs.take (before xs s) ++ xs.drop (before xs s + 1) else []) else []
def dropC (xs : List ByteArray) (s : ByteArray) : Int :=
  if okB xs = true then (if hasB xs s = true then 0 else 6) else 8
def DropPost (w : World) (xs : List ByteArray) (s : ByteArray) (e : Ending) (w' : World) : Prop :=
  ∃ v, e = .returned (.tuple #[v, .int .i64 (dropC xs s)]) ∧ w'.ownsRow w.heap.size 9 1 v (dropL xs s).length (sv (dropL xs s)) ∧ Below w.heap.size w w'
theorem DropPost.mk {w w' : World} {xs L : List ByteArray} {s : ByteArray} {v : Value} {c : Int} (h1 : dropL xs s = L) (h2 : dropC xs s = c) (h3 : w'.ownsRow w.heap.size 9 1 v L.length (sv L)) (h4 : Below w.heap.size w w') :
    DropPost w xs s (.returned (.tuple #[v, .int .i64 c])) w' := ⟨v, by rw [h2], by rw [h1]; exact h3, h4⟩
theorem hasB_lt {xs : List ByteArray} {s : ByteArray} (h : hasB xs s = true) : before xs s < xs.length := by
  rcases Nat.lt_or_ge (before xs s) xs.length with h1 | h1
  · exact h1
  · rw [hasB_end (by omega)] at h; cases h

set_option maxHeartbeats 2000000 in
theorem drop_any (A : Option Addr) (c : Nat) (xs : List ByteArray) (s : ByteArray) (w : World) {E : Nat} (hx : Rd w E A (sv xs)) (hn : xs.length ≤ maxLen) :
    Calls Try.prog 16 #[.slice A xs.length c, .string s] w (DropPost w xs s) := by
  by_cases ho : okB xs = true
  · have hn' := okB_len ho
    have HO := Lib.hid ho
    clear ho
    by_cases hh : hasB xs s = true
    · have hbl := hasB_lt hh
      have HH := Lib.hid hh
      clear hh
      go_enter Try.func16, Try.ntmps16
      go_wp2_with fail
      refine (check_any A c xs _ hx hn).mono ?_
      rintro e w' ⟨rfl, n, rfl⟩
      rw [HO.out, show code true = 0 from rfl]
      go_wp2_with fail
      refine (find_yes A c xs s _ (hx.drewN _) HO.out).mono ?_
      rintro e w' ⟨rfl, n2, rfl⟩
      rw [HH.out]
      go_wp2_with fail
      refine (clone_any A c xs _ (hx.drewN _) (by omega)).mono ?_
      rintro e w1 ⟨v, rfl, hown, hb⟩
      obtain ⟨A', c', rfl, hc1, hc2⟩ := own_slice hown
      have hsz := hb.size
      simp only [World.heap_drewN] at hsz hown hb
      generalize hk : before xs s = k at *
      have HK := Lib.hid hk
      clear hk
      go_wp2_with fail
      refine (delete_own w1 w.heap.size xs.length c' k A' xs hown hbl).mono ?_
      rintro e w2 ⟨v, rfl, hown2, hb2⟩
      go_wp2
      go_ret2
      exact DropPost.mk (L := xs.take k ++ xs.drop (k + 1)) (by unfold dropL; rw [if_pos HO.out, if_pos HH.out, HK.out]) (by unfold dropC; rw [if_pos HO.out, if_pos HH.out])
        (by
          have e : (xs.take k ++ xs.drop (k + 1)).length = xs.length - 1 := by simp; omega
          rw [e]; exact hown2)
        ((Below.of_drewN _ _ _).trans (hb.trans hb2))
    · have hh' : hasB xs s = false := by simpa using hh
      have HH := Lib.hid hh'
      clear hh hh'
      go_enter Try.func16, Try.ntmps16
      go_wp2_with fail
      refine (check_any A c xs _ hx hn).mono ?_
      rintro e w' ⟨rfl, n, rfl⟩
      rw [HO.out, show code true = 0 from rfl]
      go_wp2_with fail
      refine (find_yes A c xs s _ (hx.drewN _) HO.out).mono ?_
      rintro e w' ⟨rfl, n2, rfl⟩
      rw [HH.out]
      go_wp2
      go_ret2
      exact DropPost.mk (L := []) (by unfold dropL; rw [if_pos HO.out, if_neg (by rw [HH.out]; simp)]) (by unfold dropC; rw [if_pos HO.out, if_neg (by rw [HH.out]; simp)]) (own_nil _ _) (Below.of_drewN _ _ _)
  · have ho' : okB xs = false := by simpa using ho
    have HO := Lib.hid ho'
    clear ho ho'
    go_enter Try.func16, Try.ntmps16
    go_wp2_with fail
    refine (check_any A c xs _ hx hn).mono ?_
    rintro e w' ⟨rfl, n, rfl⟩
    rw [HO.out, show code false = 8 from rfl]
    go_wp2
    go_ret2
    exact DropPost.mk (L := []) (by unfold dropL; rw [if_neg (by rw [HO.out]; simp)]) (by unfold dropC; rw [if_neg (by rw [HO.out]; simp)]) (own_nil _ _) (Below.of_drewN _ _ _)

def SomeBool (w : World) (e : Ending) (w' : World) : Prop := ∃ b : Bool, e = .returned (.bool b) ∧ w = w'
def GreatPost (w : World) (k : Nat) (e : Ending) (w' : World) : Prop := ∃ b : Bool, e = .returned (.bool b) ∧ w = w' ∧ (b = false → k ≤ 100 ∨ 4096 < k ∧ k ≤ 4200)

set_option maxHeartbeats 2000000 in
set_option maxRecDepth 100000 in
theorem great_any (A : Option Addr) (c : Nat) (xs : List ByteArray) (w : World) {E : Nat} (hx : Rd w E A (sv xs)) (hn : xs.length ≤ maxLen) (hz : ∀ s ∈ xs, s.size ≤ maxLen) :
    Calls Try.prog 12 #[.slice A xs.length c] w (GreatPost w xs.length) := by
  unfold maxLen at hn
  go_enter Try.func12, Try.ntmps12
  go_wp2
  go_loop [3, 4] (fun n i => ∃ k m : Nat, k ≤ xs.length ∧ k ≤ 5000 ∧ i = .int .i64 k ∧ n = .int .i64 m ∧ m ≤ 10000 * k) (fun _ i => 5000 - (intOf i).toNat)
  case atStart => exact ⟨0, 0, by omega, by omega, rfl, rfl, by omega⟩
  case round =>
    obtain ⟨k, m, hk, hk2, rfl, rfl, hm⟩ := hrel
    by_cases hlt : k < xs.length ∧ k < 5000
    · obtain ⟨h1, h2⟩ := hlt
      obtain ⟨b, off, rfl, hb, hc⟩ := hx.str h1
      have c1 := hc k h1
      have hzk := hz _ (List.getElem_mem h1)
      generalize xs[k] = s at *
      unfold maxLen at hzk
      clear hc hx hz
      go_wp2
      refine ⟨⟨k + 1, m + min s.size 10000, h1, h2, by go_num, ?_, by omega⟩, by simp [intOf]; omega⟩
      congr 1
      omega
    · clear hz hx
      by_cases h1 : k < xs.length
      · go_wp2
        all_goals go_ret
        all_goals refine ⟨_, rfl, rfl, fun h => ?_⟩
        all_goals first | (exfalso; cases h; done) | omega | (simp at h; omega)
      · go_wp2
        all_goals go_ret
        all_goals refine ⟨_, rfl, rfl, fun h => ?_⟩
        all_goals first | (exfalso; cases h; done) | omega | (simp at h; omega)
end Go.Proofs.Ytgicbpoicejmbaa
