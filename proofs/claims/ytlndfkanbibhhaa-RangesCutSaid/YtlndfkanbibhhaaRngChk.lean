/- ranges.Check and provostref06.Same, SameInts, Twin: what they answer. Conditions: lengths within the model's. -/
import Derived.Test.YtlndfkanbibhhaaRngMay
namespace Go.Proofs.Ytlndfkanbibhhaa
open Go.RowKit
def errC (xs : List Rg) : Int := if mayB xs then 0 else 8
set_option maxHeartbeats 2000000 in
theorem check_any (A : Option Addr) (c : Nat) (xs : List Rg) (w : World) {B : Nat} (hx : Rd w B A (fl xs)) (hB : B ≤ w.heap.size) (hn : xs.length ≤ maxLen) :
    Calls Try.prog 9 #[.slice A xs.length c] w fun e w' => e = .returned (.int .i64 (errC xs)) ∧ Below w.heap.size w w' := by
  unfold maxLen at hn
  by_cases hm : xs.length ≤ 256
  · have hm' : (xs.length : Int) ≤ 256 := by omega
    obtain ⟨V, hV⟩ : ∃ V, chk (-2) xs = V := ⟨_, rfl⟩
    have hMV : errC xs = if V then 0 else 8 := by rw [errC, mayB, hV]; simp [hm]
    rw [hMV]
    have HV := Lib.hid hV
    clear hV hMV
    go_enter Try.func9, Try.ntmps9
    go_wp2
    go_loopw [3, 11] (fun l i wr => ∃ (k : Nat) (last : Int), k ≤ xs.length ∧ i = .int .i64 k ∧ l = .int .i64 last ∧ chk last (xs.drop k) = V ∧ -2 ≤ last ∧ last ≤ 1114111 ∧ Below w.heap.size w wr) (fun _ i _ => xs.length - (intOf i).toNat)
    case atStart => exact ⟨0, -2, Nat.zero_le _, rfl, rfl, by rw [List.drop_zero, HV.out], by omega, by omega, Below.refl _ _⟩
    case round =>
      obtain ⟨k, last, hk, rfl, rfl, hd, hl0, hl1, hb⟩ := hrel
      have hxr := Rd.thru hx hb hB
      by_cases hlt : k < xs.length
      · obtain ⟨b, off, rfl, hbl, hc⟩ := hxr.rng hlt
        obtain ⟨c1, c2⟩ := hc k hlt
        rw [chk_drop hlt] at hd
        have hone := fun W => one_any xs[k] W
        obtain ⟨r, hr⟩ : ∃ r, xs[k] = r := ⟨_, rfl⟩
        rw [hr] at hd hone c1 c2
        have HX := Lib.hid hx
        have HR := Lib.hid hr
        clear hx hxr hc hr
        have hbs := hb.size
        have HB := Lib.hid hb
        clear hb
        have hw2 : IntKind.i64.wrap (last + 2) = last + 2 := by rw [IntKind.wrap_i64]; omega
        obtain ⟨O, hO⟩ : ∃ O, oneB r = O := ⟨_, rfl⟩
        rw [hO] at hone hd
        have hr1 : O = true → r.2 ≤ 1114111 ∧ 0 ≤ r.2 := fun h => by rw [h] at hO; have := (oneB_iff r).1 hO; omega
        clear hO
        go_wp2_with fail
        refine (hone _).mono ?_
        rintro e w4 ⟨rfl, hb4⟩
        have hz : (wr.alloc (.cells #[.int .i64 r.1, .int .i64 r.2] 37)).heap.size = wr.heap.size + 1 := by simp
        have ht0 : w4.cell? ⟨wr.heap.size, 0, none⟩ = some (.int .i64 r.1) := (hb4.cell (p := ⟨wr.heap.size, 0, none⟩) (by rw [hz]; exact Nat.lt_succ_self _)).trans (by rw [World.cell?_alloc_at _ _ _ _ rfl]; rfl)
        have ht1 : w4.cell? ⟨wr.heap.size, 1, none⟩ = some (.int .i64 r.2) := (hb4.cell (p := ⟨wr.heap.size, 1, none⟩) (by rw [hz]; exact Nat.lt_succ_self _)).trans (by rw [World.cell?_alloc_at _ _ _ _ rfl]; rfl)
        have hB4 : Below w.heap.size w w4 := (HB.out.alloc hbs _).trans (hb4.mono (by rw [hz]; omega))
        cases O
        · have hv : V = false := by rw [← hd]; rfl
          subst hv
          clear hd hr1 hb4 hz
          go_wp2
          go_ret
          exact ⟨rfl, hB4⟩
        · obtain ⟨hr2, hr3⟩ := hr1 rfl
          simp only [Bool.true_and] at hd
          clear hr1 hb4 hz
          by_cases hle : last + 2 ≤ r.1
          · simp only [hle, decide_true, Bool.true_and] at hd
            have hnl : ¬ r.1 < last + 2 := by omega
            go_wp2
            exact ⟨⟨k + 1, r.2, hlt, by go_num, rfl, hd, by omega, hr2, hB4⟩, by simp [intOf]; omega⟩
          · have hv : V = false := by rw [← hd]; simp [hle]
            have hnl : r.1 < last + 2 := by omega
            subst hv
            clear hd hle
            go_wp2
            go_ret
            exact ⟨rfl, hB4⟩
      · obtain rfl : k = xs.length := by omega
        rw [List.drop_length] at hd
        have hv : V = true := by rw [← hd]; rfl
        subst hv
        clear hd
        go_wp2
        go_ret
        exact ⟨rfl, hb⟩
  · have hMV : errC xs = 8 := by simp [errC, mayB, hm]
    rw [hMV]
    have hd : (256 : Int) < xs.length := by omega
    go_enter Try.func9, Try.ntmps9
    go_wp2
    go_ret
    exact ⟨rfl, Below.refl _ _⟩
theorem same_ref (A1 A2 : Option Addr) (c1 c2 : Nat) (xs : List Rg) (w : World) {B : Nat} (h1 : Rd w B A1 (fl xs)) (h2 : Rd w B A2 (fl xs)) (hn : xs.length ≤ maxLen) :
    Calls Try.prog 7 #[.slice A1 xs.length c1, .slice A2 xs.length c2] w fun e w' => e = .returned (.bool true) ∧ ∃ n, w' = w.drewN n := by
  unfold maxLen at hn
  go_enter Try.func7, Try.ntmps7
  go_wp2
  go_loopw [5] (fun i wr => ∃ k : Nat, k ≤ xs.length ∧ i = .int .i64 k ∧ Hid (∃ n, wr = w.drewN n)) (fun i _ => xs.length - (intOf i).toNat)
  case atStart => exact ⟨0, Nat.zero_le _, rfl, Lib.hid ⟨0, rfl⟩⟩
  case round =>
    obtain ⟨k, hk, rfl, hq⟩ := hrel
    have hall : ∀ p : Addr, wr.cell? p = w.cell? p := by obtain ⟨n, rfl⟩ := hq.out; exact fun _ => rfl
    by_cases hlt : k < xs.length
    · obtain ⟨b1, o1, rfl, _, q1⟩ := h1.rng hlt
      obtain ⟨b2, o2, rfl, _, q2⟩ := h2.rng hlt
      obtain ⟨c3, c4⟩ := q1 k hlt
      obtain ⟨c5, c6⟩ := q2 k hlt
      clear q1 q2
      generalize xs[k] = r at c3 c4 c5 c6
      replace c3 : wr.cell? ⟨b1, o1 + k * 2, none⟩ = some (.int .i64 r.1) := (hall _).trans c3
      replace c4 : wr.cell? ⟨b1, o1 + k * 2 + 1, none⟩ = some (.int .i64 r.2) := (hall _).trans c4
      replace c5 : wr.cell? ⟨b2, o2 + k * 2, none⟩ = some (.int .i64 r.1) := (hall _).trans c5
      replace c6 : wr.cell? ⟨b2, o2 + k * 2 + 1, none⟩ = some (.int .i64 r.2) := (hall _).trans c6
      clear hall
      go_wp2
      first | go_quiet (fail) | go_region | fail
      go_wp2
      exact ⟨⟨k + 1, hlt, by go_num, Lib.hid (by obtain ⟨n, rfl⟩ := hq.out; exact ⟨_, World.drewN_drewN ..⟩)⟩, by simp [intOf]; omega⟩
    · obtain rfl : k = xs.length := by omega
      go_wp2
      go_ret
      exact ⟨rfl, hq.out⟩
theorem ints_ref (A1 A2 : Option Addr) (c1 c2 : Nat) (xs : List Int) (w : World) {B1 B2 : Nat} (h1 : Rd w B1 A1 (iv xs)) (h2 : Rd w B2 A2 (iv xs)) (hn : xs.length ≤ maxLen) :
    Calls Try.prog 8 #[.slice A1 xs.length c1, .slice A2 xs.length c2] w fun e w' => e = .returned (.bool true) ∧ ∃ n, w' = w.drewN n := by
  unfold maxLen at hn
  go_enter Try.func8, Try.ntmps8
  go_wp2
  go_loopw [5] (fun i wr => ∃ k : Nat, k ≤ xs.length ∧ i = .int .i64 k ∧ Hid (∃ n, wr = w.drewN n)) (fun i _ => xs.length - (intOf i).toNat)
  case atStart => exact ⟨0, Nat.zero_le _, rfl, Lib.hid ⟨0, rfl⟩⟩
  case round =>
    obtain ⟨k, hk, rfl, hq⟩ := hrel
    have hall : ∀ p : Addr, wr.cell? p = w.cell? p := by obtain ⟨n, rfl⟩ := hq.out; exact fun _ => rfl
    by_cases hlt : k < xs.length
    · obtain ⟨b1, o1, rfl, _, q1⟩ := h1.int hlt
      obtain ⟨b2, o2, rfl, _, q2⟩ := h2.int hlt
      have c3 := q1 k hlt
      have c5 := q2 k hlt
      clear q1 q2
      generalize xs[k] = r at c3 c5
      replace c3 : wr.cell? ⟨b1, o1 + k, none⟩ = some (.int .i64 r) := (hall _).trans c3
      replace c5 : wr.cell? ⟨b2, o2 + k, none⟩ = some (.int .i64 r) := (hall _).trans c5
      clear hall
      go_wp2
      first | go_quiet (fail) | go_region | fail
      go_wp2
      exact ⟨⟨k + 1, hlt, by go_num, Lib.hid (by obtain ⟨n, rfl⟩ := hq.out; exact ⟨_, World.drewN_drewN ..⟩)⟩, by simp [intOf]; omega⟩
    · obtain rfl : k = xs.length := by omega
      go_wp2
      go_ret
      exact ⟨rfl, hq.out⟩
theorem info_rng : (Try.prog.info? 37).map (fun i => (i.zero, i.size, i.bytes)) = some (some (.agg #[.int .i64 0, .int .i64 0]), 2, 16) := by kernel_rfl
theorem info_int : (Try.prog.info? 3).map (fun i => (i.zero, i.size, i.bytes)) = some (some (.int .i64 0), 1, 8) := by kernel_rfl
/-- a row of two-cell elements reads back -/
theorem Rd.of_own2 {w : World} {base n c : Nat} {e : TypeId} {A : Option Addr} {xs : List Value} (h : w.ownsRow base e 2 (.slice A n c) n xs) : Rd w w.heap.size A xs := by
  obtain ⟨h1, h2⟩ := h
  rcases h2 with ⟨h3, rfl⟩ | ⟨g, cap, cur, h3, hg, hh, hn, hc, hs, ht⟩
  · left
    exact List.eq_nil_of_length_eq_zero (by omega)
  · simp only [Value.slice.injEq] at h3
    obtain ⟨rfl, _, rfl⟩ := h3
    right
    refine ⟨g, 0, rfl, ?_, fun j hj => ?_⟩
    · rcases Nat.lt_or_ge g w.heap.size with h | h
      · exact h
      · rw [Array.getElem?_eq_none h] at hh; cases hh
    · subst ht
      simp only [World.cell?, hh, Nat.zero_add]
      simp
set_option maxHeartbeats 1000000 in
theorem twin_ref (A : Option Addr) (c : Nat) (xs : List Rg) (w : World) {B : Nat} (hx : Rd w B A (fl xs)) (hn : xs.length ≤ 4096) :
    Calls Try.prog 4 #[.slice A xs.length c] w fun e w' => ∃ v, e = .returned v ∧ w'.ownsRow w.heap.size 37 2 v xs.length (fl xs) ∧ Below w.heap.size w w' := by
  obtain ⟨i0, hi, hz0, hz1, hz2⟩ := info_parts info_rng
  have hnil : w.ownsRow w.heap.size 37 2 (.slice none 0 0) 0 [] := ⟨rfl, .inl ⟨rfl, rfl⟩⟩
  rcases A with _ | ad
  · obtain rfl : xs = [] := by
      rcases hx with h | ⟨b, off, h, _⟩
      · have := fl_len xs
        rw [h] at this
        exact List.eq_nil_of_length_eq_zero (by simp at this; omega)
      · cases h
    clear hx hn
    go_enter Try.func4, Try.ntmps4
    go_wp2
    go_ret
    exact ⟨_, rfl, hnil, Below.refl _ _⟩
  · go_enter Try.func4, Try.ntmps4
    go_wp2_with (first | (at_builtin; refine wpList_append_own _ rfl _ _ 23 rfl w.heap.size 37 i0 (.agg #[.int .i64 0, .int .i64 0]) 2 16 Try.underlying23 hi hz0 hz1 hz2 rfl (by decide) _ 0 [] rfl hnil ad xs.length c (fl xs) rfl ?c1 ?c2 ?c3 ?c4 ?c5 ?c6 ?c7))
    case c1 => exact fl_len xs
    case c2 =>
      intro j u hj
      have hjl : j < (fl xs).length := (List.getElem?_eq_some_iff.1 hj).1
      obtain ⟨b, off, e, _, q⟩ := hx.at' (k := j) hjl
      cases e
      rw [Addr.add_lit, q j hjl, ← hj, List.getElem?_eq_getElem hjl]
    case c3 => exact fl_one
    case c4 => unfold maxLen; omega
    case c5 => omega
    case c6 => exact Nat.le_refl _
    case c7 =>
      intro v' w2 ho hg _
      go_wp2
      go_ret
      exact ⟨_, rfl, ho, Below.grown (Below.refl _ _) hg (Nat.le_refl _) (fun k hk => by cases hk)⟩
end Go.Proofs.Ytlndfkanbibhhaa
