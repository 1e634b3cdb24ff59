/- slices.Sort, slices.Compact, slices.DeleteFunc over rows of numbers that the call owns; ranges.fold with its closure. Conditions: lengths within the model's. -/
import Derived.Test.YtlndfkanbibhhaaRngCutR
import Derived.Test.YtlndfkanbibhhaaShelf
import Derived.Lib.SortBridge
import Derived.Lib.RowBridge
namespace Go.Proofs.Ytlndfkanbibhhaa
open Go.RowKit Go.Shelf Go.Sort
abbrev encZ : Int → Value := Value.int .i64
theorem own_grow {w : World} {base n : Nat} {e : TypeId} {v : Value} {xs : List Value} (h : w.ownsRow base e 1 v n xs) (os : Array Obj) : (grow w os).ownsRow base e 1 v n xs :=
  own_below h (by
    refine ⟨rfl, rfl, rfl, by simp [grow], fun i hi => ?_⟩
    exact heap_grow_old w os hi) (own_lt h)
theorem below_grow (B : Nat) (w : World) (os : Array Obj) (h : B ≤ w.heap.size) : Below B w (grow w os) :=
  ⟨rfl, rfl, rfl, by simp [grow], fun i hi => heap_grow_old w os (by omega)⟩
theorem own_set {w : World} {base g c : Nat} {e : TypeId} {cur : Array Value} (hh : w.heap[g]? = some (.cells cur e (0, 0))) (hg : base ≤ g) (hc : cur.size = c) (hm : c ≤ maxLen) (vs zs : List Value) (hl : vs.length + zs.length ≤ c) :
    (w.setCells g 0 (vs ++ zs)).ownsRow base e 1 (.slice (some ⟨g, 0, none⟩) vs.length c) vs.length vs := by
  have hh' := heap_setCells (vs ++ zs) 0 w cur hh
  refine ⟨by omega, .inr ⟨g, c, _, rfl, hg, hh', by omega, hm, by rw [putA_size]; omega, ?_⟩⟩
  rw [Nat.mul_one, putA_list _ _ _ (by simp; omega), List.take_zero, List.nil_append, List.append_assoc]
  exact List.take_left' rfl
theorem holds_own {w : World} {g : Nat} {e : TypeId} {cur : Array Value} {d : List Int} (hh : w.heap[g]? = some (.cells cur e (0, 0))) (ht : cur.toList.take d.length = iv d) : Holds encZ w g 0 d.toArray := by
  intro j hj
  have hj' : j < d.length := by simpa using hj
  refine ⟨?_, by simp [World.frozen?, hh]⟩
  simp only [World.cell?, hh, Nat.zero_add]
  have : (cur.toList.take d.length)[j]? = (iv d)[j]? := by rw [ht]
  rw [List.getElem?_take, if_pos hj'] at this
  simp only [Array.getElem?_toList] at this
  rw [this]
  simp [iv, getElem!_pos, hj']
/-- an owned row that is not empty: its block -/
theorem own_open {w : World} {base n c : Nat} {A : Option Addr} {d : List Int} (hown : w.ownsRow base 3 1 (.slice A n c) n (iv d)) (h0 : 0 < n) :
    d.length = n ∧ ∃ (g : Nat) (cur : Array Value), A = some ⟨g, 0, none⟩ ∧ base ≤ g ∧ g < w.heap.size ∧ w.heap[g]? = some (.cells cur 3 (0, 0)) ∧ n ≤ c ∧ c ≤ maxLen ∧ cur.size = c ∧ Holds encZ w g 0 d.toArray := by
  have hlen : d.length = n := by have := hown.1; simp [iv] at this; omega
  refine ⟨hlen, ?_⟩
  obtain ⟨_, h2⟩ := hown
  rcases h2 with ⟨h3, rfl⟩ | ⟨g, cap, cur, h3, hg, hh, hnc, hcm, hcs, ht⟩
  · omega
  · simp only [Value.slice.injEq] at h3
    obtain ⟨rfl, _, rfl⟩ := h3
    rw [Nat.mul_one] at hcs ht
    subst hlen
    exact ⟨g, cur, rfl, hg, (Array.getElem?_eq_some_iff.1 hh).1, hh, hnc, hcm, hcs, holds_own hh ht⟩
def srt (d : List Int) : List Int := d.mergeSort fun x y => decide (x ≤ y)
theorem srt_len (d : List Int) : (srt d).length = d.length := by simp [srt]
theorem sort_own (w : World) (base n c : Nat) (A : Option Addr) (d : List Int) (hown : w.ownsRow base 3 1 (.slice A n c) n (iv d)) (hb : base ≤ w.heap.size) (h0 : 0 < n) (hn : n ≤ 4096) :
    Calls Try.prog 12 #[.slice A n c] w fun e w' => e = .returned (.tuple #[]) ∧ w'.ownsRow base 3 1 (.slice A n c) n (iv (srt d)) ∧ Below base w w' := by
  obtain ⟨hlen, g, cur, rfl, hg, hblk, hh, hnc, hcm, hcs, hH⟩ := own_open hown h0
  subst hlen
  refine (Try.slices_Sort_int g 0 c d w hH hblk (by omega)).mono ?_
  rintro e w' ⟨rfl, q, os, rfl⟩
  rw [show (d.mergeSort fun x y => decide (x ≤ y)) = srt d from rfl, Lib.sorted_world encZ w g 0 q d.toArray (srt d) os hH (by rw [srt_len]; simp)]
  have hs := own_set (w := w.drewN q) (base := base) (e := 3) hh hg hcs hcm (iv (srt d)) [] (by simp [iv, srt_len]; omega)
  rw [List.append_nil, show (iv (srt d)).length = d.length by simp [iv, srt_len]] at hs
  refine ⟨rfl, own_grow hs os, ?_⟩
  refine ((Below.of_drewN base w q).trans (below_setCells' hg _ _ _)).trans (below_grow _ _ _ ?_)
  rw [heap_size_setCells]
  exact hb
theorem compact_own (w : World) (base n c : Nat) (A : Option Addr) (d : List Int) (hown : w.ownsRow base 3 1 (.slice A n c) n (iv d)) (h0 : 0 < n) :
    Calls Try.prog 13 #[.slice A n c] w fun e w' => e = .returned (.slice A (Lib.compact d).length c) ∧ w'.ownsRow base 3 1 (.slice A (Lib.compact d).length c) (Lib.compact d).length (iv (Lib.compact d)) ∧ Below base w w' := by
  obtain ⟨hlen, g, cur, rfl, hg, hblk, hh, hnc, hcm, hcs, hH⟩ := own_open hown h0
  subst hlen
  have hle := Lib.compact_length_le d
  refine (Try.slices_Compact_int g 0 c d w hH (by unfold maxLen at hcm; omega) hnc).mono ?_
  rintro e w' ⟨rfl, q, rfl⟩
  rw [Lib.putRow_eq_setCells encZ w g 0 d.toArray _ q hH (by simp; omega), List.map_append]
  have hs := own_set (w := w.drewN q) (base := base) (e := 3) hh hg hcs hcm (iv (Lib.compact d)) ((List.replicate (d.length - (Lib.compact d).length) 0).map encZ) (by simp [iv]; omega)
  rw [show (iv (Lib.compact d)).length = (Lib.compact d).length by simp [iv]] at hs
  exact ⟨rfl, hs, (Below.of_drewN base w q).trans (below_setCells' hg _ _ _)⟩
theorem over_any (x : Int) (w : World) : Calls Try.prog 15 #[.int .i64 x] w fun e w' => e = .returned (.bool (decide (1114111 < x))) ∧ ∃ q, w' = w.drewN q := by
  go_enter Try.func15, Try.ntmps15
  go_wp2
  go_ret
  exact ⟨ret_bool (by simp), 0, rfl⟩
theorem delete_own (w : World) (base n c : Nat) (A : Option Addr) (d : List Int) (hown : w.ownsRow base 3 1 (.slice A n c) n (iv d)) (h0 : 0 < n) :
    Calls Try.prog 14 #[.slice A n c, .func (.func 15) #[] #[]] w fun e w' => e = .returned (.slice A (d.filter fun x => !decide (1114111 < x)).length c) ∧
      w'.ownsRow base 3 1 (.slice A (d.filter fun x => !decide (1114111 < x)).length c) (d.filter fun x => !decide (1114111 < x)).length (iv (d.filter fun x => !decide (1114111 < x))) ∧ Below base w w' := by
  obtain ⟨hlen, g, cur, rfl, hg, hblk, hh, hnc, hcm, hcs, hH⟩ := own_open hown h0
  subst hlen
  have hle := List.length_filter_le (fun x => !decide (1114111 < x)) d
  have eg : ∀ args w, (callFunc 15 args).run Try.prog w = .ok (.enter 15 args) w := enters_of Try.func15 (by kernel_rfl) rfl
  have h := Try.slices_DeleteFunc encZ (fun _ => rfl) (fun x => decide (1114111 < x)) 15 #[] eg 0 Try.zeroValue3 g 0 c d.toArray w (fun W x _ => over_any x W) (fun _ _ _ x _ => over_any x _) hH (by simp; unfold maxLen at hcm; omega) (by simpa using hnc)
  rw [show d.toArray.size = d.length by simp] at h
  refine h.mono ?_
  rintro e w' ⟨rfl, q, rfl⟩
  rw [show d.toArray.toList = d from rfl, Lib.putRow_eq_setCells encZ w g 0 d.toArray _ q hH (by simp; omega), List.map_append]
  have hs := own_set (w := w.drewN q) (base := base) (e := 3) hh hg hcs hcm (iv (d.filter fun x => !decide (1114111 < x))) ((List.replicate (d.length - (d.filter fun x => !decide (1114111 < x)).length) 0).map encZ) (by simp [iv]; omega)
  rw [show (iv (d.filter fun x => !decide (1114111 < x))).length = (d.filter fun x => !decide (1114111 < x)).length by simp [iv]] at hs
  exact ⟨rfl, hs, (Below.of_drewN base w q).trans (below_setCells' hg _ _ _)⟩
end Go.Proofs.Ytlndfkanbibhhaa
