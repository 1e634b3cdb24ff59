/- ranges.Cuts' closure that appends a range's two places, and ranges.fold with it. Conditions: lengths within the model's. -/
import Derived.Test.YtlndfkanbibhhaaRngSort
namespace Go.Proofs.Ytlndfkanbibhhaa
open Go.RowKit
def FoldPost (w : World) (base : Nat) (zs : List Int) (e : Ending) (w' : World) : Prop := ∃ v, e = .returned v ∧ w'.ownsRow base 3 1 v zs.length (iv zs) ∧ Below base w w'
set_option maxHeartbeats 2000000 in
theorem put_any (base : Nat) (v : Value) (zs : List Int) (r : Rg) (w : World) (hown : w.ownsRow base 3 1 v zs.length (iv zs)) (hb : base ≤ w.heap.size) (hr : oneB r = true) (hn : zs.length ≤ 4000) :
    Calls Try.prog 11 #[v, .agg #[.int .i64 r.1, .int .i64 r.2]] w (FoldPost w base (zs ++ [r.1, r.2 + 1])) := by
  obtain ⟨i1, hi, hz0, hz1, hz2⟩ := info_parts info_int
  obtain ⟨A, c, rfl, hc, _⟩ := own_slice hown
  obtain ⟨x, y⟩ := r
  have hor := (oneB_iff _).1 hr
  simp only at hor
  have hw1 : IntKind.i64.wrap (y + 1) = y + 1 := by rw [IntKind.wrap_i64]; omega
  have hown1 := (hown.alloc (.cells #[.int .i64 x, .int .i64 y] 37)).alloc (.cells #[.int .i64 x, .int .i64 (y + 1)] 3)
  have hB1 : Below base w ((w.alloc (.cells #[.int .i64 x, .int .i64 y] 37)).alloc (.cells #[.int .i64 x, .int .i64 (y + 1)] 3)) := ((Below.refl _ _).alloc hb _).alloc (by simp; omega) _
  have hz : (w.alloc (.cells #[.int .i64 x, .int .i64 y] 37)).heap.size = w.heap.size + 1 := by simp
  have hz' : ((w.alloc (.cells #[.int .i64 x, .int .i64 y] 37)).alloc (.cells #[.int .i64 x, .int .i64 (y + 1)] 3)).heap.size = w.heap.size + 2 := by simp
  have hrd := rd_new (w.alloc (.cells #[.int .i64 x, .int .i64 y] 37)) #[.int .i64 x, .int .i64 (y + 1)] 3 (iv [x, y + 1]) rfl
  rw [hz] at hrd
  have hg := own_ge hown
  clear hown hor hr
  go_enter Try.func11, Try.ntmps11
  go_wp2_with (at_builtin; refine wpList_append_rd _ (by rfl) _ _ _ (by rfl) base 3 i1 (.int .i64 0) 8 Try.underlying25 hi hz0 hz1 hz2 (by rfl) (.slice A zs.length c) zs.length (iv zs) (by rfl) hown1 (B := (w.heap.size + 1 + 1)) (some ⟨w.heap.size + 1, 0, none⟩) 2 2 (iv [x, y + 1]) (by rfl) hrd rfl iv_one (by unfold maxLen; omega) (by omega) (by rw [hz']; omega) ?_; intro v2 w3 ho2 hg2 hr2)
  go_ret
  have hb3 : Below base w w3 := hB1.grown hg2 (by rw [hz']; omega) hr2
  refine ⟨v2, rfl, ?_, hb3⟩
  have e : iv zs ++ iv [x, y + 1] = iv (zs ++ [x, y + 1]) := by simp [iv]
  rw [e] at ho2
  rw [List.length_append]
  exact ho2
theorem bnds_take {l : List Rg} {k : Nat} (h : k < l.length) : bnds (l.take (k + 1)) = bnds (l.take k) ++ [l[k].1, l[k].2 + 1] := by
  unfold bnds
  rw [List.take_succ_eq_append_getElem h, List.flatMap_append]
  simp
theorem bnds_len : ∀ l : List Rg, (bnds l).length = 2 * l.length
  | [] => rfl
  | r :: l => by
    have := bnds_len l
    unfold bnds at this ⊢
    simp only [List.flatMap_cons, List.length_append, List.length_cons, List.length_nil]
    omega
set_option maxHeartbeats 4000000 in
theorem fold_any (base : Nat) (v : Value) (zs : List Int) (A : Option Addr) (c : Nat) (xs : List Rg) (w : World) (hx : Rd w base A (fl xs)) (hown : w.ownsRow base 3 1 v zs.length (iv zs)) (hb : base ≤ w.heap.size) (hr : ∀ r ∈ xs, oneB r = true) (hxn : xs.length ≤ 20) (hn : zs.length ≤ 3000) :
    Calls Try.prog 10 #[.slice A xs.length c, v, .func (.func 11) #[] #[]] w (FoldPost w base (zs ++ bnds xs)) := by
  go_enter Try.func10, Try.ntmps10
  go_wp2
  go_loopw [1, 11] (fun u j wr => ∃ (k : Nat), k ≤ xs.length ∧ j = .int .i64 k ∧ wr.ownsRow base 3 1 u (zs ++ bnds (xs.take k)).length (iv (zs ++ bnds (xs.take k))) ∧ Below base w wr) (fun _ j _ => xs.length - (intOf j).toNat)
  case atStart =>
    refine ⟨0, Nat.zero_le _, rfl, ?_, Below.refl _ _⟩
    rw [List.take_zero, show bnds [] = [] from rfl, List.append_nil]
    exact hown
  case round =>
    clear hown
    obtain ⟨k, hk, rfl, hown, hbr⟩ := hrel
    have hbs := hbr.size
    by_cases hlt : k < xs.length
    · obtain ⟨b, off, rfl, hbB, hg⟩ := (hx.thru hbr (Nat.le_refl _)).get2 hlt
      obtain ⟨c1, c2⟩ := hg wr.heap.size wr (by omega) (Below.refl _ _)
      have hone := hr _ (List.getElem_mem hlt)
      have hlen : (zs ++ bnds (xs.take k)).length ≤ 4000 := by rw [List.length_append, bnds_len, List.length_take]; omega
      have hnx : zs ++ bnds (xs.take (k + 1)) = zs ++ bnds (xs.take k) ++ [xs[k].1, xs[k].2 + 1] := by rw [bnds_take hlt, List.append_assoc]
      obtain ⟨q, hq⟩ : ∃ q, zs ++ bnds (xs.take k) = q := ⟨_, rfl⟩
      rw [hq] at hown hlen hnx
      obtain ⟨r, hre⟩ : ∃ r, xs[k] = r := ⟨_, rfl⟩
      rw [hre] at c1 c2 hone hnx
      have HN := Lib.hid hnx
      have HX := Lib.hid hx
      have HR := Lib.hid hr
      have hB2 : Below base w (wr.alloc (.cells #[.int .i64 r.1, .int .i64 r.2] 37)) := hbr.alloc (by omega) _
      have hsz : base ≤ (wr.alloc (.cells #[.int .i64 r.1, .int .i64 r.2] 37)).heap.size := by simp; omega
      have hput := put_any base _ q r (wr.alloc (.cells #[.int .i64 r.1, .int .i64 r.2] 37)) (hown.alloc _) hsz hone hlen
      clear hnx hx hr hq hre hown hg hone
      go_wp2_with fail
      refine hput.mono ?_
      rintro e w4 ⟨v2, rfl, ho2, hb2⟩
      have hb3 := hB2.trans hb2
      clear hput
      go_wp2
      refine ⟨⟨k + 1, hlt, by go_num, ?_, hb3⟩, by simp [intOf]; omega⟩
      rw [HN.out]
      exact ho2
    · obtain rfl : k = xs.length := by omega
      rw [List.take_length] at hown
      go_wp2
      go_ret
      exact ⟨_, rfl, hown, hbr⟩
end Go.Proofs.Ytlndfkanbibhhaa
