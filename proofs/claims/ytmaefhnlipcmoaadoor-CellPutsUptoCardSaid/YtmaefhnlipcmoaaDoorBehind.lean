/- cell.behind, and what stands on it: what they answer. Conditions: lengths within the model's; Go's two tables of utf8. -/
import Derived.Test.YtmaefhnlipcmoaaDoorWalkN6
import Derived.Test.YtmaefhnlipcmoaaDoorWalkN7
import Derived.Test.YtmaefhnlipcmoaaDoorRefBh
namespace Go.Proofs.YtmaefhnlipcmoaaDoor
open Go.RowKit
theorem walk_any {w0 : World} {A : Option Addr} {cap : Nat} {xs : List Cel} {bv ba bw be bE : Nat} {B : Nat} (hx : Rd w0 B A (cv xs)) (hB : B ≤ w0.heap.size) (hn : xs.length ≤ 1000000) (hT : Tabs w0) (hW : ∀ c ∈ xs, CelW maxLen c) : ∀ (d : Nat), d ≤ 16 → ∀ (a : Nat) (w : World) (E : List Int), St w0 w A cap xs bv ba bw be bE E → a ≤ xs.length →
    Calls Tryd.prog 54 #[.int .i64 a, .int .i64 d, .pointer (some ⟨bv, 0, none⟩), .pointer (some ⟨ba, 0, none⟩), .pointer (some ⟨bw, 0, none⟩), .pointer (some ⟨be, 0, none⟩)] w fun e w' => WalkPost w0 w A cap xs bv ba bw be bE E d a e w' := by
  intro d
  induction d with
  | zero =>
    intro hd a w E hS ha
    cases h : xs[a]? with
    | none => exact walk_out hS (List.getElem?_eq_none_iff.1 h)
    | some c =>
      have hc := hW c (List.mem_of_getElem? h)
      exact walk_flat hS hx hB hn hT hd h hc.kind hc.text (.inr (.inr rfl))
  | succ d ih =>
    intro hd a w E hS ha
    cases h : xs[a]? with
    | none => exact walk_out hS (List.getElem?_eq_none_iff.1 h)
    | some c =>
      have hc := hW c (List.mem_of_getElem? h)
      cases ho : oneC c with
      | false => exact walk_flat hS hx hB hn hT hd h hc.kind hc.text (.inl ho)
      | true =>
        by_cases hk : nest c
        · have h0 := oneC_many ho hk
          obtain ⟨k, nm, tx, num, many⟩ := c
          obtain ⟨mm, rfl⟩ : ∃ mm : Nat, many = mm := ⟨many.toNat, by simp only at h0; omega⟩
          have hnames : ∀ c ∈ xs, c.name.size ≤ maxLen := fun c hc => (hW c hc).name
          have ih' := fun (q : Nat) (w : World) (E : List Int) (h1 : St w0 w A cap xs bv ba bw be bE E) (h2 : q ≤ xs.length) => ih (by omega) q w E h1 h2
          rcases hk with hk | hk
          · simp only at hk
            subst hk
            rcases Nat.eq_zero_or_pos mm with hm | hm
            · subst hm
              exact walk6_empty hS hx hB hn hT hd h hc.text ho
            · exact walk6_full hS hx hB hn hT hd h hc.text ho hm hnames ih'
          · simp only at hk
            subst hk
            rcases Nat.eq_zero_or_pos mm with hm | hm
            · subst hm
              exact walk7_empty hS hx hB hn hT hd h hc.text ho
            · exact walk7_full hS hx hB hn hT hd h hc.text ho hm hnames ih'
        · exact walk_flat hS hx hB hn hT hd h hc.kind hc.text (.inr (.inl hk))
/-- the places behind a value's cells -/
def EndsAll (xs : List Cel) (E : List Int) : Prop := E.length = xs.length ∧ ∀ i, i < xs.length → ∃ n : Nat, bh xs 16 i = some n ∧ E.getD i 0 = (n : Int)
def BehindPost (xs : List Cel) (w : World) (e : Ending) (w' : World) : Prop :=
  Below w.heap.size w w' ∧ ((mayC xs = false ∧ e = .returned (.slice none 0 0)) ∨
    (mayC xs = true ∧ ∃ bE E, e = .returned (.slice (some ⟨bE, 0, none⟩) xs.length xs.length) ∧ w.heap.size ≤ bE ∧ w'.heap[bE]? = some (.cells (iv E).toArray 3) ∧ EndsAll xs E))
theorem made_row {w : World} {base n : Nat} {g : Nat} {xs : List Value} (h : w.ownsRow base 3 1 (.slice (some ⟨g, 0, none⟩) n n) n xs) : w.heap[g]? = some (.cells xs.toArray 3) ∧ xs.length = n := by
  obtain ⟨h1, h2⟩ := h
  rcases h2 with ⟨h3, _⟩ | ⟨g', cap, cur, h3, hg, hh, hn, hc, hs, ht⟩
  · simp at h3
  · simp only [Value.slice.injEq, Option.some.injEq, Addr.mk.injEq, and_true, true_and] at h3
    obtain ⟨rfl, rfl⟩ := h3
    refine ⟨?_, by omega⟩
    rw [hh, ← ht]
    congr 2
    rw [Nat.mul_one] at hs ⊢
    rw [← hs, ← Array.length_toList, List.take_length]
theorem zeros (n : Nat) : (madeCells (Value.int .i64 0).cells (n * 1)).toList = iv (List.replicate n 0) := by
  simp [madeCells, iv, Value.cells, Nat.mod_one, List.map_const']
set_option maxRecDepth 100000 in
set_option maxHeartbeats 4000000 in
theorem behind_any {xs : List Cel} (A : Option Addr) (cap : Nat) (w : World) {B : Nat} (hx : Rd w B A (cv xs)) (hB : B ≤ w.heap.size) (hn : xs.length ≤ maxLen) (hT : Tabs w) (hW : ∀ c ∈ xs, CelW maxLen c) :
    Calls Tryd.prog 40 #[.slice A xs.length cap] w fun e w' => BehindPost xs w e w' := by
  have hbx := fun o => (Below.refl w.heap.size w).alloc (Nat.le_refl _) o
  have bad : mayC xs = false → ∀ w', Below w.heap.size w w' → BehindPost xs w (.returned (.slice none 0 0)) w' := fun h w' hb => ⟨hb, .inl ⟨h, rfl⟩⟩
  cases xs with
  | nil =>
    have hbad := bad mayC_nil
    clear bad hW hx
    go_enter Tryd.func40, Tryd.ntmps40
    go_wp2
    go_ret
    exact hbad _ (hbx _)
  | cons c r =>
    obtain ⟨b, off, rfl, hb, _, n1, _⟩ := hx.cel1 (k := 0) (c := c) rfl
    have hmc := mayC_cons c r
    obtain ⟨xs, hxs⟩ : ∃ xs, c :: r = xs := ⟨_, rfl⟩
    rw [hxs] at hmc hx hn hW bad ⊢
    obtain ⟨n, hN⟩ : ∃ n, xs.length = n := ⟨_, rfl⟩
    have hpos : 0 < n := by rw [← hN, ← hxs]; simp
    have hpI : ((n : Int) == 0) = false := beq_eq_false_iff_ne.2 (by omega)
    have HXS := Lib.hid hxs
    clear hxs
    simp only [Nat.zero_mul, Nat.add_zero] at n1
    obtain ⟨nm, hnm⟩ : ∃ nm, c.name = nm := ⟨_, rfl⟩
    rw [hnm] at hmc n1
    clear hnm
    unfold maxLen at hn
    rw [hN]
    have HN := Lib.hid hN
    by_cases h2 : n ≤ 2048
    · have h2I : ¬ (2048 : Int) < n := by omega
      have h2d : decide ((2048 : Int) < n) = false := by simp; omega
      by_cases hem : nm = e0
      · have hE : nm.toList = [] := (e0_nil nm).1 hem
        have hmv : mayC xs = decide (bh xs 16 0 = some n) := by
          rw [hmc, hN, decide_eq_true h2, decide_eq_true hem]
          rfl
        clear hmc hem
        have bad' : bh xs 16 0 ≠ some n → ∀ w', Below w.heap.size w w' → BehindPost xs w (.returned (.slice none 0 0)) w' := fun h w' hb => bad (by rw [hmv, decide_eq_false h]) w' hb
        have good' : bh xs 16 0 = some n → ∀ w' bE E, Below w.heap.size w w' → w.heap.size ≤ bE → w'.heap[bE]? = some (.cells (iv E).toArray 3) → EndsAll xs E → BehindPost xs w (.returned (.slice (some ⟨bE, 0, none⟩) n n)) w' := fun h w' bE E hb h1 h2 h3 =>
          ⟨hb, .inr ⟨by rw [hmv, decide_eq_true h], bE, E, by rw [HN.out], h1, h2, h3⟩⟩
        have BAD := Lib.hid bad'
        have GOOD := Lib.hid good'
        clear bad bad' good' hmv
        have hbw : b < w.heap.size := by omega
        obtain ⟨i0, hi, hi0, hi1, hi2⟩ := info_parts info_int
        have HX := Lib.hid hx
        have HW := Lib.hid hW
        clear hx hW hN
        go_enter Tryd.func40, Tryd.ntmps40
        go_upto_region 3 with fail
        go_upto_region 7 with (first | (go_at_call 53; refine (kinds_any _).mono ?_; rintro e w2 ⟨rfl, hb2⟩; have v2 : w2.cell? ⟨w.heap.size, 0, none⟩ = some (.slice (some ⟨b, off, none⟩) n cap) := (hb2.cell (p := ⟨w.heap.size, 0, none⟩) (by simp)).trans (by simp only [World.cell?, heap_alloc_new]; rfl); have lw2 : w.heap.size < w2.heap.size := (by have hq := hb2.size; rw [World.size_alloc] at hq; omega)) | (refine wpList_storeK2 (by rfl) (.tmp 3) (.tmp 21) (by rfl) w2.heap.size _ _ (by rfl) (by rfl) (heap_alloc_new _ _) (by rfl) ?_; intro W3 hk3 hg3; have v3 : W3.cell? ⟨w.heap.size, 0, none⟩ = some (.slice (some ⟨b, off, none⟩) n cap) := hg3.cell (Lib.cell?_alloc_some _ v2) (by simp; omega)) | (refine wpList_make_full _ (by rfl) (.tmp 23) (.tmp 23) 37 (by rfl) W3.heap.size 3 i0 (.int .i64 0) 1 Tryd.underlying37 hi hi0 hi1 .i64 .i64 n n n (by rfl) (by rfl) rfl rfl (by rw [hi2]; omega) (by unfold maxLen; omega) (Nat.le_refl _) ?_; intro W4 hown4 hg4))
        obtain ⟨hrow, hlen⟩ := made_row hown4
        rw [zeros] at hrow
        have hb2w := (hbx (.cells #[.slice (some ⟨b, off, none⟩) n cap] 25)).trans (hb2.mono (by simp))
        have hb2x := hb2.size
        rw [World.size_alloc] at hb2x
        have hb3w : Below w.heap.size w W3 := Below.grown (hb2w.alloc hb2w.size _) hg3 (by have := hb2w.size; simp; omega) (fun k hk => by cases hk; exact hb2w.size)
        have hb4w : Below w.heap.size w W4 := Below.grown hb3w hg4 hb3w.size (fun k hk => by cases hk)
        have l23 : w2.heap.size < W3.heap.size := by have := hg3.size; rw [World.size_alloc] at this; omega
        have l34 : W3.heap.size < W4.heap.size := (Array.getElem?_eq_some_iff.1 hrow).1
        have v4 := hg4.cell v3 (by simp)
        have k4 := (hg4.block _ l23 (by simp)).trans hk3
        clear v2 v3 hk3 hg3 hg4 hown4 hb2 hb2w hb3w
        have FVd : ∃ f, f = Value.func (.func 54) #[] #[.pointer (some ⟨w.heap.size, 0, none⟩), .pointer (some ⟨w2.heap.size, 0, none⟩), .pointer (some ⟨W4.heap.size + 1, 0, none⟩), .pointer (some ⟨W4.heap.size, 0, none⟩)] := ⟨_, rfl⟩
        obtain ⟨fvv, hfv⟩ := FVd
        rw [← hfv]
        have hb5 : Below W4.heap.size W4 ((W4.alloc (.cells #[.slice (some ⟨W3.heap.size, 0, none⟩) n n] 37)).alloc (.cells #[fvv] 80)) := ((Below.refl _ _).alloc (Nat.le_refl _) _).alloc (by simp) _
        have e5 : ((W4.alloc (.cells #[.slice (some ⟨W3.heap.size, 0, none⟩) n n] 37)).alloc (.cells #[fvv] 80)).cell? ⟨W4.heap.size, 0, none⟩ = some (.slice (some ⟨W3.heap.size, 0, none⟩) n n) := Lib.cell?_alloc_some _ (by simp only [World.cell?, heap_alloc_new]; rfl)
        have f5 : ((W4.alloc (.cells #[.slice (some ⟨W3.heap.size, 0, none⟩) n n] 37)).alloc (.cells #[fvv] 80)).cell? ⟨W4.heap.size + 1, 0, none⟩ = some fvv := by
          have := heap_alloc_new (W4.alloc (.cells #[.slice (some ⟨W3.heap.size, 0, none⟩) n n] 37)) (.cells #[fvv] 80)
          rw [World.size_alloc] at this
          simp only [World.cell?, this]
          rfl
        obtain ⟨W5, hW5⟩ : ∃ W5, ((W4.alloc (.cells #[.slice (some ⟨W3.heap.size, 0, none⟩) n n] 37)).alloc (.cells #[fvv] 80)) = W5 := ⟨_, rfl⟩
        rw [hW5] at hb5 e5 f5 ⊢
        clear hW5
        subst hfv
        have lw : w.heap.size < w2.heap.size := by omega
        have hS : St w W5 (some ⟨b, off, none⟩) cap xs w.heap.size w2.heap.size (W4.heap.size + 1) W4.heap.size W3.heap.size (List.replicate n 0) :=
          ⟨hb4w.trans (hb5.mono hb4w.size), by rw [HN.out]; exact (hb5.cell (by show w.heap.size < _; omega)).trans v4, (hb5.block _ (by omega)).trans k4, f5, by rw [HN.out]; exact e5, (hb5.block _ l34).trans hrow, by simp [HN.out], by omega, by omega, by omega, by omega, by omega⟩
        have hwalk : Calls Tryd.prog 54 #[.int .i64 0, .int .i64 16, .pointer (some ⟨w.heap.size, 0, none⟩), .pointer (some ⟨w2.heap.size, 0, none⟩), .pointer (some ⟨W4.heap.size + 1, 0, none⟩), .pointer (some ⟨W4.heap.size, 0, none⟩)] W5.drew _ :=
          walk_any HX.out hB (by rw [HN.out]; omega) hT HW.out 16 (Nat.le_refl _) 0 W5.drew _ (hS.grow ((Below.refl _ _).drew)) (Nat.zero_le _)
        have hnq : (ans (bh xs 16 0) != (n : Int)) = !decide (bh xs 16 0 = some n) := by rw [← ans_len]; rfl
        obtain ⟨v, hv⟩ : ∃ v, ans (bh xs 16 0) = v := ⟨_, rfl⟩
        have hk1 : W5.drew.cell? ⟨W4.heap.size + 1, 0, none⟩ = some (.func (.func 54) #[] #[.pointer (some ⟨w.heap.size, 0, none⟩), .pointer (some ⟨w2.heap.size, 0, none⟩), .pointer (some ⟨W4.heap.size + 1, 0, none⟩), .pointer (some ⟨W4.heap.size, 0, none⟩)]) ∧ W5.drew.cell? ⟨w.heap.size, 0, none⟩ = some (.slice (some ⟨b, off, none⟩) n cap) := ⟨f5, by have := hS.hv; rw [HN.out] at this; exact this⟩
        obtain ⟨D, hD⟩ : ∃ D, decide (bh xs 16 0 = some n) = D := ⟨_, rfl⟩
        rw [hv, hD] at hnq
        unfold WalkPost at hwalk
        rw [hv] at hwalk
        have HD := Lib.hid hD
        clear hD hv
        clear e5 f5 v4 k4 hrow
        refine wp_region_held_drew (S := fun W => W.cell? ⟨W4.heap.size + 1, 0, none⟩ = some (.func (.func 54) #[] #[.pointer (some ⟨w.heap.size, 0, none⟩), .pointer (some ⟨w2.heap.size, 0, none⟩), .pointer (some ⟨W4.heap.size + 1, 0, none⟩), .pointer (some ⟨W4.heap.size, 0, none⟩)]) ∧ W.cell? ⟨w.heap.size, 0, none⟩ = some (.slice (some ⟨b, off, none⟩) n cap)) (by kernel_rfl) (by first | exact hk2 | exact hk1) (fun hHeld => ?_)
        refine wpAnyH_take (i := 0) (oi := _) (v := .func (.func 54) #[] #[.pointer (some ⟨w.heap.size, 0, none⟩), .pointer (some ⟨w2.heap.size, 0, none⟩), .pointer (some ⟨W4.heap.size + 1, 0, none⟩), .pointer (some ⟨W4.heap.size, 0, none⟩)]) rfl (by kernel_rfl) (by kernel_rfl) (by kernel_rfl) (fun _ _ _ h => h) (Or.inl ⟨by rfl, by intro W hW; obtain ⟨q1, q2⟩ := hW; go_simp⟩) hHeld ?_
        try simp only [Act.put, List.getElem_toArray, List.getElem_cons_zero, List.setIfInBounds_toArray, List.set_cons_zero, List.set_cons_succ]
        refine wpAnyH_take (i := 2) (oi := _) (v := .slice (some ⟨b, off, none⟩) n cap) rfl (by kernel_rfl) (by kernel_rfl) (by kernel_rfl) (fun _ _ _ h => h) (Or.inl ⟨by rfl, by intro W hW; obtain ⟨q1, q2⟩ := hW; go_simp⟩) hHeld ?_
        try simp only [Act.put, List.getElem_toArray, List.getElem_cons_zero, List.getElem_cons_succ, List.setIfInBounds_toArray, List.set_cons_zero, List.set_cons_succ]
        refine wpAnyH_take (i := 3) (oi := _) (v := .int .i64 n) rfl (by kernel_rfl) (by kernel_rfl) (by kernel_rfl) (fun _ _ _ h => h) (Or.inl ⟨by rfl, by intro W hW; clear hW; go_simp⟩) hHeld ?_
        try simp only [Act.put, List.getElem_toArray, List.getElem_cons_zero, List.getElem_cons_succ, List.setIfInBounds_toArray, List.set_cons_zero, List.set_cons_succ]
        refine wpAnyH_ready (rs := [1]) (by kernel_rfl) (by simp) ?_
        refine AllReadyH.cons (o := _) rfl (fun K hK => ?_) AllReadyH.nil
        clear hHeld
        go_simp
        go_at_call 54
        refine hwalk.mono ?_
        rintro e w5 ⟨rfl, hg5, E5, hS5, hE5⟩
        have hk2 := And.intro hS5.hw (by have := hS5.hv; rw [HN.out] at this; exact this)
        refine hK.out _ _ (by first | exact hk2 | exact hk1) (fun hHeld => ?_)
        clear hK K
        try simp only [Act.put, List.getElem_toArray, List.getElem_cons_zero, List.getElem_cons_succ, List.setIfInBounds_toArray, List.set_cons_zero, List.set_cons_succ]
        refine wpAnyH_take (i := 4) (oi := _) (v := .bool (!D)) rfl (by kernel_rfl) (by kernel_rfl) (by kernel_rfl) (fun _ _ _ h => h) (Or.inl ⟨by rfl, by intro W hW; clear hW; go_simp; all_goals exact hnq⟩) hHeld ?_
        try simp only [Act.put, List.getElem_toArray, List.getElem_cons_zero, List.getElem_cons_succ, List.setIfInBounds_toArray, List.set_cons_zero, List.set_cons_succ]
        refine wpAnyH_done (by kernel_rfl) ?_ _
        have hb05 : Below w.heap.size w w5 := hS5.below
        have e5 := hS5.he
        rw [HN.out] at e5
        cases D with
        | true =>
          have hbh := of_decide_eq_true HD.out
          go_wp2
          go_ret
          exact GOOD.out hbh _ _ E5 hb05 (by omega) hS5.hE ⟨by rw [hS5.len], fun i hi => hE5.2 n hbh i (Nat.zero_le _) (by rw [HN.out] at hi; exact hi)⟩
        | false =>
          have hbh := of_decide_eq_false HD.out
          go_wp2
          go_ret
          exact BAD.out hbh _ hb05
      · have hE : ¬ nm.toList = [] := fun g => hem ((e0_nil nm).2 g)
        have hEe : nm.toList.isEmpty = false := by simpa using hE
        have hbw : b < w.heap.size := by omega
        have hbad := bad (by rw [hmc, decide_eq_false hem]; simp)
        clear bad hmc hx hW hem
        go_enter Tryd.func40, Tryd.ntmps40
        go_wp2
        go_ret
        exact hbad _ (hbx _)
    · have h2I : (2048 : Int) < n := by omega
      have hbad := bad (by rw [hmc, hN, decide_eq_false h2]; simp)
      clear bad hmc hx hW
      go_enter Tryd.func40, Tryd.ntmps40
      go_wp2
      go_ret
      exact hbad _ (hbx _)
end Go.Proofs.YtmaefhnlipcmoaaDoor
