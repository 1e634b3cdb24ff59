/- provostref06.with: a number put into a rising list. Conditions: at most 5,000 numbers. -/
import Derived.Test.YtlndfkanbibhhaaRngChk
import Derived.Deep.DeepCutAuto
namespace Go.Proofs.Ytlndfkanbibhhaa
open Go.RowKit
theorem slice_hi (A : Option Addr) (n c k : Nat) (hk : k ≤ c) : ∀ W, (Instr.slice 25 (.slice A n c) none (some (.int .i64 k)) none).run Try.prog W = .ok (.slice A k c) W := by
  intro W
  have hk' : (k : Int) ≤ c := by omega
  have sz : ∀ w, (sizeOf 3).run Try.prog w = .ok 1 w := fun w => Try.sizeOf3 w
  go_simp
theorem slice_lo (A : Option Addr) (n c k : Nat) (xs : List Int) (hn : xs.length = n) (hk : k ≤ n) (hc : n ≤ c) {w : World} {E : Nat} (hx : Rd w E A (iv xs)) :
    ∃ A' c', (∀ W, (Instr.slice 25 (.slice A n c) (some (.int .i64 k)) none none).run Try.prog W = .ok (.slice A' (n - k) c') W) ∧ Rd w E A' (iv (xs.drop k)) := by
  have hk' : (k : Int) ≤ n := by omega
  refine ⟨if c = k then A else A.map (·.add k), c - k, fun W => ?_, ?_⟩
  · go_simp
  · by_cases he : k = n
    · left
      rw [List.drop_of_length_le (by omega)]
      rfl
    · have hck : c ≠ k := by omega
      rw [if_neg hck]
      obtain ⟨b, off, rfl, hb, hcell⟩ := hx.int (k := k) (by omega)
      refine .inr ⟨b, off + k, by simp [Addr.add], hb, fun j hj => ?_⟩
      have hj' : k + j < xs.length := by simp [iv] at hj; omega
      rw [Nat.add_assoc, hcell (k + j) hj']
      simp [iv]
theorem rd_take {w : World} {E : Nat} {A : Option Addr} {xs : List Int} (hx : Rd w E A (iv xs)) (k : Nat) : Rd w E A (iv (xs.take k)) := by
  rcases hx with h | ⟨b, off, e, hb, hc⟩
  · left
    have : xs = [] := by simpa [iv] using h
    rw [this]
    simp [iv]
  · refine .inr ⟨b, off, e, hb, fun j hj => ?_⟩
    have hj' : j < xs.length := by simp [iv] at hj; omega
    rw [hc j (by rw [iv_len]; exact hj')]
    simp [iv]
theorem at_drop {l : List Int} {n : Int} {k : Nat} (h : k < l.length) : atI (l.drop k) n = if l[k] < n then atI (l.drop (k + 1)) n + 1 else 0 := by
  rw [List.drop_eq_getElem_cons h]
  unfold atI
  rw [List.takeWhile_cons]
  by_cases hl : l[k] < n
  · simp [hl]
  · simp [hl]
def IntsPost (w : World) (L : List Int) (e : Ending) (w' : World) : Prop := ∃ A' c', e = .returned (.slice A' L.length c') ∧ L.length ≤ c' ∧ Rd w' w'.heap.size A' (iv L) ∧ Below w.heap.size w w'
set_option maxHeartbeats 4000000 in
theorem with_ref (A : Option Addr) (c : Nat) (xs : List Int) (n : Int) (w : World) {E : Nat} (hx : Rd w E A (iv xs)) (hE : E ≤ w.heap.size) (hn : xs.length ≤ 5000) (hc : xs.length ≤ c) :
    Calls Try.prog 36 #[.slice A xs.length c, .int .i64 n] w (IntsPost w (withL xs n)) := by
  obtain ⟨i1, hi, hz0, hz1, hz2⟩ := info_parts info_int
  obtain ⟨V, hV⟩ : ∃ V, atI xs n = V := ⟨_, rfl⟩
  have hVlen : V ≤ xs.length := by rw [← hV]; exact (List.takeWhile_sublist _).length_le
  have hW : withL xs n = if 1114111 < n ∨ xs[V]? = some n then xs else xs.take V ++ [n] ++ xs.drop V := by rw [withL, hV]
  have HW := Lib.hid hW
  have HV := Lib.hid hV
  clear hW hV
  go_enter Try.func36, Try.ntmps36
  go_wp2
  go_loopw [5] (fun i wr => ∃ k : Nat, k ≤ xs.length ∧ i = .int .i64 k ∧ k + atI (xs.drop k) n = V ∧ wr = w) (fun i _ => xs.length - (intOf i).toNat)
  case atStart => exact ⟨0, Nat.zero_le _, rfl, by rw [List.drop_zero, HV.out]; omega, rfl⟩
  case round =>
    obtain ⟨k, hk, rfl, hd, rfl⟩ := hrel
    have same : withL xs n = xs → IntsPost wr (withL xs n) (.returned (.slice A xs.length c)) wr := by
      intro h
      rw [h]
      exact ⟨A, c, rfl, hc, hx.mono hE, Below.refl _ _⟩
    have hsl := slice_hi A xs.length c k (by omega)
    obtain ⟨A', c', hsl2, hrd⟩ := slice_lo A xs.length c k xs rfl hk hc hx
    by_cases hlt : k < xs.length
    · obtain ⟨b, off, hAe, _, q⟩ := hx.int hlt
      have hcell := q k hlt
      rw [at_drop hlt] at hd
      clear q
      by_cases hl : xs[k] < n
      · rw [if_pos hl] at hd
        have hd2 : k + 1 + atI (xs.drop (k + 1)) n = V := by omega
        clear hd hsl hsl2 hrd same
        subst hAe
        generalize xs[k] = x at *
        go_wp2
        exact ⟨⟨k + 1, hlt, by go_num, hd2, trivial⟩, by simp [intOf]; omega⟩
      · rw [if_neg hl, Nat.add_zero] at hd
        subst hd
        have hat : xs[k]? = some xs[k] := List.getElem?_eq_getElem hlt
        by_cases hbig : 1114111 < n
        · have hS := same (by rw [HW.out, if_pos (.inl hbig)])
          clear hsl hsl2 hrd same hat
          subst hAe
          generalize xs[k] = x at *
          go_wp2
          all_goals go_ret
          all_goals exact hS
        · by_cases heq : xs[k] = n
          · have hS := same (by rw [HW.out, if_pos (.inr (by rw [hat, heq]))])
            clear hsl hsl2 hrd same hat
            subst hAe
            generalize xs[k] = x at *
            go_wp2
            all_goals go_ret
            all_goals exact hS
          · have hno : withL xs n = xs.take k ++ [n] ++ xs.drop k := by rw [HW.out, if_neg (by rw [hat]; simp; omega)]
            have hne : (xs[k] == n) = false := beq_eq_false_iff_ne.2 heq
            have HO := Lib.hid hno
            clear same hat hno
            generalize xs[k] = x at *
            subst hAe
            go_upto_region 8 with (at_builtin; refine wpList_append_rd _ (by rfl) _ _ _ (by rfl) wr.heap.size 3 i1 (.int .i64 0) 8 Try.underlying25 hi hz0 hz1 hz2 (by rfl) (.slice none 0 0) 0 [] (by rfl) (World.ownsRow_nil wr _ 3 1) (B := E) (some ⟨b, off, none⟩) k c (iv (xs.take k)) (by rfl) (rd_take hx k) (by rw [iv_len, List.length_take]; omega) iv_one (by unfold maxLen; omega) (by omega) (Nat.le_refl _) ?_; intro v1 w2 ho1 hg1 hr1)
            rw [Nat.zero_add, List.nil_append] at ho1
            obtain ⟨A1, c1, rfl, _, _⟩ := own_slice ho1
            have hb2 : Below wr.heap.size wr w2 := Below.grown (Below.refl _ _) hg1 (Nat.le_refl _) (fun k hk => by cases hk)
            have hs2 := hb2.size
            clear hg1 hr1
            go_upto_region 9 with (at_builtin; refine wpList_append_rd _ (by rfl) _ _ _ (by rfl) wr.heap.size 3 i1 (.int .i64 0) 8 Try.underlying25 hi hz0 hz1 hz2 (by rfl) (.slice A1 k c1) k (iv (xs.take k)) (by rfl) (ho1.alloc _) (B := (w2.heap.size + 1)) (some ⟨w2.heap.size, 0, none⟩) 1 1 (iv [n]) (by rfl) (rd_new w2 #[.int .i64 n] 3 _ rfl) rfl iv_one (by unfold maxLen; omega) (by omega) (by simp; omega) ?_; intro v2 w3 ho2 hg2 hr2)
            obtain ⟨A2, c2, rfl, _, _⟩ := own_slice ho2
            have hb3 : Below wr.heap.size wr w3 := (hb2.alloc hs2 _).grown hg2 (by simp; omega) hr2
            have hs3 := hb3.size
            have hx3 := hx.thru hb3 hE
            clear hg2 hr2 ho1 hb2 hs2
            go_wp2_with (at_builtin; refine wpList_append_rd _ (by rfl) _ _ _ (by rfl) wr.heap.size 3 i1 (.int .i64 0) 8 Try.underlying25 hi hz0 hz1 hz2 (by rfl) (.slice A2 (k + 1) c2) (k + 1) (iv (xs.take k) ++ iv [n]) (by rfl) ho2 (B := E) A' (xs.length - k) c' (iv (xs.drop k)) (by rfl) (hrd.thru hb3 hE) (by rw [iv_len, List.length_drop]) iv_one (by unfold maxLen; omega) (by omega) (by omega) ?_; intro v3 w5 ho3 hg3 hr3)
            go_ret
            have hb5 : Below wr.heap.size wr w5 := hb3.grown hg3 (by omega) hr3
            obtain ⟨A3, c3, rfl, hc3, _⟩ := own_slice ho3
            have e1 : iv (xs.take k) ++ iv [n] ++ iv (xs.drop k) = iv (xs.take k ++ [n] ++ xs.drop k) := by simp [iv]
            have e2 : (xs.take k ++ [n] ++ xs.drop k).length = k + 1 + (xs.length - k) := by simp; omega
            rw [e1] at ho3
            unfold IntsPost
            rw [HO.out, e2]
            exact ⟨_, _, rfl, hc3, Rd.of_own ho3, hb5⟩
    · obtain rfl : k = xs.length := by omega
      rw [List.drop_length] at hd
      have hd2 : xs.length = V := by rw [← hd]; rfl
      have hat : xs[xs.length]? = none := List.getElem?_eq_none (Nat.le_refl _)
      by_cases hbig : 1114111 < n
      · have hS := same (by rw [HW.out, if_pos (.inl hbig)])
        clear hsl hsl2 hrd same hat hd
        go_wp2
        all_goals go_ret
        all_goals exact hS
      · have hno : withL xs n = xs.take xs.length ++ [n] ++ xs.drop xs.length := by rw [HW.out, if_neg (by rw [← hd2, hat]; simp; omega), ← hd2]
        have HO := Lib.hid hno
        clear same hat hno hd hd2
        go_upto_region 8 with (at_builtin; refine wpList_append_rd _ (by rfl) _ _ _ (by rfl) wr.heap.size 3 i1 (.int .i64 0) 8 Try.underlying25 hi hz0 hz1 hz2 (by rfl) (.slice none 0 0) 0 [] (by rfl) (World.ownsRow_nil wr _ 3 1) (B := E) A xs.length c (iv (xs.take xs.length)) (by rfl) (rd_take hx xs.length) (by rw [iv_len, List.length_take]; omega) iv_one (by unfold maxLen; omega) (by omega) (Nat.le_refl _) ?_; intro v1 w2 ho1 hg1 hr1)
        rw [Nat.zero_add, List.nil_append] at ho1
        obtain ⟨A1, c1, rfl, _, _⟩ := own_slice ho1
        have hb2 : Below wr.heap.size wr w2 := Below.grown (Below.refl _ _) hg1 (Nat.le_refl _) (fun k hk => by cases hk)
        have hs2 := hb2.size
        clear hg1 hr1
        go_upto_region 9 with (at_builtin; refine wpList_append_rd _ (by rfl) _ _ _ (by rfl) wr.heap.size 3 i1 (.int .i64 0) 8 Try.underlying25 hi hz0 hz1 hz2 (by rfl) (.slice A1 xs.length c1) xs.length (iv (xs.take xs.length)) (by rfl) (ho1.alloc _) (B := (w2.heap.size + 1)) (some ⟨w2.heap.size, 0, none⟩) 1 1 (iv [n]) (by rfl) (rd_new w2 #[.int .i64 n] 3 _ rfl) rfl iv_one (by unfold maxLen; omega) (by omega) (by simp; omega) ?_; intro v2 w3 ho2 hg2 hr2)
        obtain ⟨A2, c2, rfl, _, _⟩ := own_slice ho2
        have hb3 : Below wr.heap.size wr w3 := (hb2.alloc hs2 _).grown hg2 (by simp; omega) hr2
        have hs3 := hb3.size
        have hx3 := hx.thru hb3 hE
        clear hg2 hr2 ho1 hb2 hs2
        go_wp2_with (at_builtin; refine wpList_append_rd _ (by rfl) _ _ _ (by rfl) wr.heap.size 3 i1 (.int .i64 0) 8 Try.underlying25 hi hz0 hz1 hz2 (by rfl) (.slice A2 (xs.length + 1) c2) (xs.length + 1) (iv (xs.take xs.length) ++ iv [n]) (by rfl) ho2 (B := E) A' 0 c' (iv (xs.drop xs.length)) (by rfl) (hrd.thru hb3 hE) (by simp [iv_len]) iv_one (by unfold maxLen; omega) (by omega) (by omega) ?_; intro v3 w5 ho3 hg3 hr3)
        go_ret
        have hb5 : Below wr.heap.size wr w5 := hb3.grown hg3 (by omega) hr3
        obtain ⟨A3, c3, rfl, hc3, _⟩ := own_slice ho3
        have e1 : iv (xs.take xs.length) ++ iv [n] ++ iv (xs.drop xs.length) = iv (xs.take xs.length ++ [n] ++ xs.drop xs.length) := by simp [iv]
        have e2 : (xs.take xs.length ++ [n] ++ xs.drop xs.length).length = xs.length + 1 + 0 := by simp
        rw [e1] at ho3
        unfold IntsPost
        rw [HO.out, e2]
        exact ⟨_, _, rfl, hc3, Rd.of_own ho3, hb5⟩
end Go.Proofs.Ytlndfkanbibhhaa
