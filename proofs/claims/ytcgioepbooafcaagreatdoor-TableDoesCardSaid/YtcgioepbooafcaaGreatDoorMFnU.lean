/- provostref03.Behind, May, Check, asked, End: what they answer. Conditions: cells whose texts are of at most 2,000,000 bytes; at most 1,000,000 cells. cell.behind, and what stands on it: what they answer. Conditions: lengths within the model's; Go's two tables of utf8. A value's cells each have an end; cell.Member. Conditions: lengths within the model's; Go's two tables of utf8. cell.Member: the member of a name. Conditions: lengths within the model's; Go's two tables of utf8. cell.Kids: what stands in a cell. Conditions: lengths within the model's; Go's two tables of utf8. cell.Check, asked, End: what they answer. Conditions: lengths within the model's; Go's two tables of utf8. cell.Sub: the value at a place. Conditions: lengths within the model's; Go's two tables of utf8. -/
import Derived.Test.YtcgioepbooafcaaGreatDoorMNames
import Derived.Test.YtcgioepbooafcaaGreatDoorWalkN6
import Derived.Test.YtcgioepbooafcaaGreatDoorWalkN7
import Derived.Test.YtcgioepbooafcaaGreatDoorMFn
namespace Go.Proofs.YtcgioepbooafcaaGreatDoor
section
open Go.RowKit
theorem behind_ref {xs : List Cel} (A : Option Addr) (cap : Nat) (hn : xs.length ≤ 1000000) (hW : ∀ c ∈ xs, CelW 2000000 c) : ∀ (d : Nat), d ≤ 1000000 → ∀ (a : Nat) (w : World) {B : Nat}, Rd w B A (cv xs) → B ≤ w.heap.size → a ≤ xs.length →
    Calls Tryz.prog 78 #[.slice A xs.length cap, .int .i64 a, .int .i64 d] w fun e w' => e = .returned (.int .i64 (ans (bh xs d a))) ∧ Below w.heap.size w w' := by
  intro d
  induction d with
  | zero =>
    intro hd a w B hx hB ha
    cases h : xs[a]? with
    | none => exact behind_out A cap 0 a w (List.getElem?_eq_none_iff.1 h)
    | some c => exact behind_flat A cap 0 a w hx hB hn h (hW c (List.mem_of_getElem? h)) (.inr (.inr rfl))
  | succ d ih =>
    intro hd a w B hx hB ha
    cases h : xs[a]? with
    | none => exact behind_out A cap (d + 1) a w (List.getElem?_eq_none_iff.1 h)
    | some c =>
      have hc := hW c (List.mem_of_getElem? h)
      cases ho : oneC c with
      | false => exact behind_flat A cap (d + 1) a w hx hB hn h hc (.inl ho)
      | true =>
        by_cases h6 : c.kind = 6
        · exact behind_6 A cap d a (fun q w B h1 h2 h3 => ih (by omega) q w h1 h2 h3) w hx hB hn (by omega) h hW ho h6
        · by_cases h7 : c.kind = 7
          · exact behind_7 A cap d a (fun q w B h1 h2 h3 => ih (by omega) q w h1 h2 h3) w hx hB hn (by omega) h hW ho h7
          · exact behind_flat A cap (d + 1) a w hx hB hn h hc (.inr (.inl (fun g => g.elim h6 h7)))
theorem ans_len (o : Option Nat) (n : Nat) : (ans o == (n : Int)) = decide (o = some n) := by
  rw [beqD]
  cases o with
  | none => simp [ans]
  | some m =>
    by_cases h : m = n
    · subst h; simp [ans]
    · rw [decide_eq_false (fun g => h (Option.some.inj g)), decide_eq_false (fun g => h (by simp only [ans] at g; omega))]
theorem mayC_nil : mayC [] = false := rfl
theorem mayC_cons (c : Cel) (r : List Cel) : mayC (c :: r) = (decide ((c :: r).length ≤ 2048) && decide (c.name = e0) && decide (bh (c :: r) 16 0 = some (c :: r).length)) := by
  simp [mayC]
set_option maxRecDepth 100000 in
set_option maxHeartbeats 2000000 in
theorem may_ref {xs : List Cel} (A : Option Addr) (cap : Nat) (w : World) {B : Nat} (hx : Rd w B A (cv xs)) (hB : B ≤ w.heap.size) (hn : xs.length ≤ 1000000) (hW : ∀ c ∈ xs, CelW 2000000 c) :
    Calls Tryz.prog 62 #[.slice A xs.length cap] w fun e w' => e = .returned (.bool (mayC xs)) ∧ Below w.heap.size w w' := by
  cases xs with
  | nil =>
    rw [mayC_nil]
    go_enter Tryz.func62, Tryz.ntmps62
    go_wp2
    go_ret
    exact ⟨rfl, Below.refl _ _⟩
  | cons c r =>
    obtain ⟨b, off, rfl, hb, _, n1, _⟩ := hx.cel1 (k := 0) (c := c) rfl
    obtain ⟨V, hV⟩ : ∃ V, mayC (c :: r) = V := ⟨_, rfl⟩
    rw [hV]
    rw [mayC_cons] at hV
    have hcb := behind_ref (some ⟨b, off, none⟩) cap hn hW 16 (by omega) 0 w hx hB (Nat.zero_le _)
    have hq := ans_len (bh (c :: r) 16 0) (c :: r).length
    have hpos : 0 < (c :: r).length := by simp
    obtain ⟨n, hN⟩ : ∃ n, (c :: r).length = n := ⟨_, rfl⟩
    rw [hN] at hV hcb hn hq hpos ⊢
    obtain ⟨v, hv⟩ : ∃ v, ans (bh (c :: r) 16 0) = v := ⟨_, rfl⟩
    rw [hv] at hcb hq
    rw [← hq] at hV
    simp only [Nat.zero_mul, Nat.add_zero] at n1
    obtain ⟨nm, hnm⟩ : ∃ nm, c.name = nm := ⟨_, rfl⟩
    rw [hnm] at hV n1
    rw [e0_isE] at hV
    have hpI : (0 : Int) < n := by omega
    clear hnm hN hx hW hv hq
    by_cases h2 : n ≤ 2048
    · have h2I : (n : Int) ≤ 2048 := by omega
      rw [decide_eq_true h2, Bool.true_and] at hV
      cases hE : nm.toList.isEmpty with
      | false =>
        rw [hE, Bool.false_and] at hV
        subst hV
        clear hcb
        go_enter Tryz.func62, Tryz.ntmps62
        go_wp2
        go_ret
        exact ⟨rfl, Below.refl _ _⟩
      | true =>
        rw [hE, Bool.true_and] at hV
        subst hV
        go_enter Tryz.func62, Tryz.ntmps62
        go_wp2_with fail
        refine hcb.mono ?_
        rintro e w1 ⟨rfl, hb1⟩
        go_wp2
        go_ret
        exact ⟨rfl, hb1⟩
    · have h2I : ¬ (n : Int) ≤ 2048 := by omega
      rw [decide_eq_false h2] at hV
      simp only [Bool.false_and] at hV
      subst hV
      clear hcb
      go_enter Tryz.func62, Tryz.ntmps62
      go_wp2
      go_ret
      exact ⟨rfl, Below.refl _ _⟩
def checkC (xs : List Cel) : Int := if mayC xs = true then 0 else 8
/-- the error of a value and a place -/
def askedC (xs : List Cel) (a : Int) : Int := if mayC xs = true then (if 0 ≤ a ∧ a < xs.length then 0 else 2) else 8
end
section
open Go.RowKit
theorem walk_any {w0 : World} {A : Option Addr} {cap : Nat} {xs : List Cel} {bv ba bw be bE : Nat} {B : Nat} (hx : Rd w0 B A (cv xs)) (hB : B ≤ w0.heap.size) (hn : xs.length ≤ 1000000) (hT : Tabs w0) (hW : ∀ c ∈ xs, CelW maxLen c) : ∀ (d : Nat), d ≤ 16 → ∀ (a : Nat) (w : World) (E : List Int), St w0 w A cap xs bv ba bw be bE E → a ≤ xs.length →
    Calls Tryz.prog 82 #[.int .i64 a, .int .i64 d, .pointer (some ⟨bv, 0, none⟩), .pointer (some ⟨ba, 0, none⟩), .pointer (some ⟨bw, 0, none⟩), .pointer (some ⟨be, 0, none⟩)] w fun e w' => WalkPost w0 w A cap xs bv ba bw be bE E d a e w' := by
  intro d
  induction d with
  | zero =>
    intro hd a w E hS ha
    cases h : xs[a]? with
    | none => exact walk_out hS (List.getElem?_eq_none_iff.1 h)
    | some c =>
      have hc := hW c (List.mem_of_getElem? h)
      exact walk_flat hS hx hB hn hT hd h hc.kind hc.text (.inr (.inr rfl))
  | succ d ih =>
    intro hd a w E hS ha
    cases h : xs[a]? with
    | none => exact walk_out hS (List.getElem?_eq_none_iff.1 h)
    | some c =>
      have hc := hW c (List.mem_of_getElem? h)
      cases ho : oneC c with
      | false => exact walk_flat hS hx hB hn hT hd h hc.kind hc.text (.inl ho)
      | true =>
        by_cases hk : nest c
        · have h0 := oneC_many ho hk
          obtain ⟨k, nm, tx, num, many⟩ := c
          obtain ⟨mm, rfl⟩ : ∃ mm : Nat, many = mm := ⟨many.toNat, by simp only at h0; omega⟩
          have hnames : ∀ c ∈ xs, c.name.size ≤ maxLen := fun c hc => (hW c hc).name
          have ih' := fun (q : Nat) (w : World) (E : List Int) (h1 : St w0 w A cap xs bv ba bw be bE E) (h2 : q ≤ xs.length) => ih (by omega) q w E h1 h2
          rcases hk with hk | hk
          · simp only at hk
            subst hk
            rcases Nat.eq_zero_or_pos mm with hm | hm
            · subst hm
              exact walk6_empty hS hx hB hn hT hd h hc.text ho
            · exact walk6_full hS hx hB hn hT hd h hc.text ho hm hnames ih'
          · simp only at hk
            subst hk
            rcases Nat.eq_zero_or_pos mm with hm | hm
            · subst hm
              exact walk7_empty hS hx hB hn hT hd h hc.text ho
            · exact walk7_full hS hx hB hn hT hd h hc.text ho hm hnames ih'
        · exact walk_flat hS hx hB hn hT hd h hc.kind hc.text (.inr (.inl hk))
/-- the places behind a value's cells -/
def EndsAll (xs : List Cel) (E : List Int) : Prop := E.length = xs.length ∧ ∀ i, i < xs.length → ∃ n : Nat, bh xs 16 i = some n ∧ E.getD i 0 = (n : Int)
def BehindPost (xs : List Cel) (w : World) (e : Ending) (w' : World) : Prop :=
  Below w.heap.size w w' ∧ ((mayC xs = false ∧ e = .returned (.slice none 0 0)) ∨
    (mayC xs = true ∧ ∃ bE E, e = .returned (.slice (some ⟨bE, 0, none⟩) xs.length xs.length) ∧ w.heap.size ≤ bE ∧ w'.heap[bE]? = some (.cells (iv E).toArray 3) ∧ EndsAll xs E))
theorem made_row {w : World} {base n : Nat} {g : Nat} {xs : List Value} (h : w.ownsRow base 3 1 (.slice (some ⟨g, 0, none⟩) n n) n xs) : w.heap[g]? = some (.cells xs.toArray 3) ∧ xs.length = n := by
  obtain ⟨h1, h2⟩ := h
  rcases h2 with ⟨h3, _⟩ | ⟨g', cap, cur, h3, hg, hh, hn, hc, hs, ht⟩
  · simp at h3
  · simp only [Value.slice.injEq, Option.some.injEq, Addr.mk.injEq, and_true, true_and] at h3
    obtain ⟨rfl, rfl⟩ := h3
    refine ⟨?_, by omega⟩
    rw [hh, ← ht]
    congr 2
    rw [Nat.mul_one] at hs ⊢
    rw [← hs, ← Array.length_toList, List.take_length]
theorem zeros (n : Nat) : (madeCells (Value.int .i64 0).cells (n * 1)).toList = iv (List.replicate n 0) := by
  simp [madeCells, iv, Value.cells, Nat.mod_one, List.map_const']
set_option maxRecDepth 100000 in
set_option maxHeartbeats 4000000 in
theorem behind_any {xs : List Cel} (A : Option Addr) (cap : Nat) (w : World) {B : Nat} (hx : Rd w B A (cv xs)) (hB : B ≤ w.heap.size) (hn : xs.length ≤ maxLen) (hT : Tabs w) (hW : ∀ c ∈ xs, CelW maxLen c) :
    Calls Tryz.prog 71 #[.slice A xs.length cap] w fun e w' => BehindPost xs w e w' := by
  have hbx := fun o => (Below.refl w.heap.size w).alloc (Nat.le_refl _) o
  have bad : mayC xs = false → ∀ w', Below w.heap.size w w' → BehindPost xs w (.returned (.slice none 0 0)) w' := fun h w' hb => ⟨hb, .inl ⟨h, rfl⟩⟩
  cases xs with
  | nil =>
    have hbad := bad mayC_nil
    clear bad hW hx
    go_enter Tryz.func71, Tryz.ntmps71
    go_wp2
    go_ret
    exact hbad _ (hbx _)
  | cons c r =>
    obtain ⟨b, off, rfl, hb, _, n1, _⟩ := hx.cel1 (k := 0) (c := c) rfl
    have hmc := mayC_cons c r
    obtain ⟨xs, hxs⟩ : ∃ xs, c :: r = xs := ⟨_, rfl⟩
    rw [hxs] at hmc hx hn hW bad ⊢
    obtain ⟨n, hN⟩ : ∃ n, xs.length = n := ⟨_, rfl⟩
    have hpos : 0 < n := by rw [← hN, ← hxs]; simp
    have hpI : ((n : Int) == 0) = false := beq_eq_false_iff_ne.2 (by omega)
    have HXS := Lib.hid hxs
    clear hxs
    simp only [Nat.zero_mul, Nat.add_zero] at n1
    obtain ⟨nm, hnm⟩ : ∃ nm, c.name = nm := ⟨_, rfl⟩
    rw [hnm] at hmc n1
    clear hnm
    unfold maxLen at hn
    rw [hN]
    have HN := Lib.hid hN
    by_cases h2 : n ≤ 2048
    · have h2I : ¬ (2048 : Int) < n := by omega
      have h2d : decide ((2048 : Int) < n) = false := by simp; omega
      by_cases hem : nm = e0
      · have hE : nm.toList = [] := (e0_nil nm).1 hem
        have hmv : mayC xs = decide (bh xs 16 0 = some n) := by
          rw [hmc, hN, decide_eq_true h2, decide_eq_true hem]
          rfl
        clear hmc hem
        have bad' : bh xs 16 0 ≠ some n → ∀ w', Below w.heap.size w w' → BehindPost xs w (.returned (.slice none 0 0)) w' := fun h w' hb => bad (by rw [hmv, decide_eq_false h]) w' hb
        have good' : bh xs 16 0 = some n → ∀ w' bE E, Below w.heap.size w w' → w.heap.size ≤ bE → w'.heap[bE]? = some (.cells (iv E).toArray 3) → EndsAll xs E → BehindPost xs w (.returned (.slice (some ⟨bE, 0, none⟩) n n)) w' := fun h w' bE E hb h1 h2 h3 =>
          ⟨hb, .inr ⟨by rw [hmv, decide_eq_true h], bE, E, by rw [HN.out], h1, h2, h3⟩⟩
        have BAD := Lib.hid bad'
        have GOOD := Lib.hid good'
        clear bad bad' good' hmv
        have hbw : b < w.heap.size := by omega
        obtain ⟨i0, hi, hi0, hi1, hi2⟩ := info_parts info_int
        have HX := Lib.hid hx
        have HW := Lib.hid hW
        clear hx hW hN
        go_enter Tryz.func71, Tryz.ntmps71
        go_upto_region 3 with fail
        go_upto_region 7 with (first | (go_at_call 81; refine (kinds_any _).mono ?_; rintro e w2 ⟨rfl, hb2⟩; have v2 : w2.cell? ⟨w.heap.size, 0, none⟩ = some (.slice (some ⟨b, off, none⟩) n cap) := (hb2.cell (p := ⟨w.heap.size, 0, none⟩) (by simp)).trans (by simp only [World.cell?, heap_alloc_new]; rfl); have lw2 : w.heap.size < w2.heap.size := (by have hq := hb2.size; rw [World.size_alloc] at hq; omega)) | (refine wpList_storeK2 (by rfl) (.tmp 3) (.tmp 21) (by rfl) w2.heap.size _ _ (by rfl) (by rfl) (heap_alloc_new _ _) (by rfl) ?_; intro W3 hk3 hg3; have v3 : W3.cell? ⟨w.heap.size, 0, none⟩ = some (.slice (some ⟨b, off, none⟩) n cap) := hg3.cell (Lib.cell?_alloc_some _ v2) (by simp; omega)) | (refine wpList_make_full _ (by rfl) (.tmp 23) (.tmp 23) 93 (by rfl) W3.heap.size 3 i0 (.int .i64 0) 1 Tryz.underlying93 hi hi0 hi1 .i64 .i64 n n n (by rfl) (by rfl) rfl rfl (by rw [hi2]; omega) (by unfold maxLen; omega) (Nat.le_refl _) ?_; intro W4 hown4 hg4))
        obtain ⟨hrow, hlen⟩ := made_row hown4
        rw [zeros] at hrow
        have hb2w := (hbx (.cells #[.slice (some ⟨b, off, none⟩) n cap] 26)).trans (hb2.mono (by simp))
        have hb2x := hb2.size
        rw [World.size_alloc] at hb2x
        have hb3w : Below w.heap.size w W3 := Below.grown (hb2w.alloc hb2w.size _) hg3 (by have := hb2w.size; simp; omega) (fun k hk => by cases hk; exact hb2w.size)
        have hb4w : Below w.heap.size w W4 := Below.grown hb3w hg4 hb3w.size (fun k hk => by cases hk)
        have l23 : w2.heap.size < W3.heap.size := by have := hg3.size; rw [World.size_alloc] at this; omega
        have l34 : W3.heap.size < W4.heap.size := (Array.getElem?_eq_some_iff.1 hrow).1
        have v4 := hg4.cell v3 (by simp)
        have k4 := (hg4.block _ l23 (by simp)).trans hk3
        clear v2 v3 hk3 hg3 hg4 hown4 hb2 hb2w hb3w
        have FVd : ∃ f, f = Value.func (.func 82) #[] #[.pointer (some ⟨w.heap.size, 0, none⟩), .pointer (some ⟨w2.heap.size, 0, none⟩), .pointer (some ⟨W4.heap.size + 1, 0, none⟩), .pointer (some ⟨W4.heap.size, 0, none⟩)] := ⟨_, rfl⟩
        obtain ⟨fvv, hfv⟩ := FVd
        rw [← hfv]
        have hb5 : Below W4.heap.size W4 ((W4.alloc (.cells #[.slice (some ⟨W3.heap.size, 0, none⟩) n n] 93)).alloc (.cells #[fvv] 110)) := ((Below.refl _ _).alloc (Nat.le_refl _) _).alloc (by simp) _
        have e5 : ((W4.alloc (.cells #[.slice (some ⟨W3.heap.size, 0, none⟩) n n] 93)).alloc (.cells #[fvv] 110)).cell? ⟨W4.heap.size, 0, none⟩ = some (.slice (some ⟨W3.heap.size, 0, none⟩) n n) := Lib.cell?_alloc_some _ (by simp only [World.cell?, heap_alloc_new]; rfl)
        have f5 : ((W4.alloc (.cells #[.slice (some ⟨W3.heap.size, 0, none⟩) n n] 93)).alloc (.cells #[fvv] 110)).cell? ⟨W4.heap.size + 1, 0, none⟩ = some fvv := by
          have := heap_alloc_new (W4.alloc (.cells #[.slice (some ⟨W3.heap.size, 0, none⟩) n n] 93)) (.cells #[fvv] 110)
          rw [World.size_alloc] at this
          simp only [World.cell?, this]
          rfl
        obtain ⟨W5, hW5⟩ : ∃ W5, ((W4.alloc (.cells #[.slice (some ⟨W3.heap.size, 0, none⟩) n n] 93)).alloc (.cells #[fvv] 110)) = W5 := ⟨_, rfl⟩
        rw [hW5] at hb5 e5 f5 ⊢
        clear hW5
        subst hfv
        have lw : w.heap.size < w2.heap.size := by omega
        have hS : St w W5 (some ⟨b, off, none⟩) cap xs w.heap.size w2.heap.size (W4.heap.size + 1) W4.heap.size W3.heap.size (List.replicate n 0) :=
          ⟨hb4w.trans (hb5.mono hb4w.size), by rw [HN.out]; exact (hb5.cell (by show w.heap.size < _; omega)).trans v4, (hb5.block _ (by omega)).trans k4, f5, by rw [HN.out]; exact e5, (hb5.block _ l34).trans hrow, by simp [HN.out], by omega, by omega, by omega, by omega, by omega⟩
        have hwalk : Calls Tryz.prog 82 #[.int .i64 0, .int .i64 16, .pointer (some ⟨w.heap.size, 0, none⟩), .pointer (some ⟨w2.heap.size, 0, none⟩), .pointer (some ⟨W4.heap.size + 1, 0, none⟩), .pointer (some ⟨W4.heap.size, 0, none⟩)] W5.drew _ :=
          walk_any HX.out hB (by rw [HN.out]; omega) hT HW.out 16 (Nat.le_refl _) 0 W5.drew _ (hS.grow ((Below.refl _ _).drew)) (Nat.zero_le _)
        have hnq : (ans (bh xs 16 0) != (n : Int)) = !decide (bh xs 16 0 = some n) := by rw [← ans_len]; rfl
        obtain ⟨v, hv⟩ : ∃ v, ans (bh xs 16 0) = v := ⟨_, rfl⟩
        have hk1 : W5.drew.cell? ⟨W4.heap.size + 1, 0, none⟩ = some (.func (.func 82) #[] #[.pointer (some ⟨w.heap.size, 0, none⟩), .pointer (some ⟨w2.heap.size, 0, none⟩), .pointer (some ⟨W4.heap.size + 1, 0, none⟩), .pointer (some ⟨W4.heap.size, 0, none⟩)]) ∧ W5.drew.cell? ⟨w.heap.size, 0, none⟩ = some (.slice (some ⟨b, off, none⟩) n cap) := ⟨f5, by have := hS.hv; rw [HN.out] at this; exact this⟩
        obtain ⟨D, hD⟩ : ∃ D, decide (bh xs 16 0 = some n) = D := ⟨_, rfl⟩
        rw [hv, hD] at hnq
        unfold WalkPost at hwalk
        rw [hv] at hwalk
        have HD := Lib.hid hD
        clear hD hv
        clear e5 f5 v4 k4 hrow
        refine wp_region_held_drew (S := fun W => W.cell? ⟨W4.heap.size + 1, 0, none⟩ = some (.func (.func 82) #[] #[.pointer (some ⟨w.heap.size, 0, none⟩), .pointer (some ⟨w2.heap.size, 0, none⟩), .pointer (some ⟨W4.heap.size + 1, 0, none⟩), .pointer (some ⟨W4.heap.size, 0, none⟩)]) ∧ W.cell? ⟨w.heap.size, 0, none⟩ = some (.slice (some ⟨b, off, none⟩) n cap)) (by kernel_rfl) (by first | exact hk2 | exact hk1) (fun hHeld => ?_)
        refine wpAnyH_take (i := 0) (oi := _) (v := .func (.func 82) #[] #[.pointer (some ⟨w.heap.size, 0, none⟩), .pointer (some ⟨w2.heap.size, 0, none⟩), .pointer (some ⟨W4.heap.size + 1, 0, none⟩), .pointer (some ⟨W4.heap.size, 0, none⟩)]) rfl (by kernel_rfl) (by kernel_rfl) (by kernel_rfl) (fun _ _ _ h => h) (Or.inl ⟨by rfl, by intro W hW; obtain ⟨q1, q2⟩ := hW; go_simp⟩) hHeld ?_
        try simp only [Act.put, List.getElem_toArray, List.getElem_cons_zero, List.setIfInBounds_toArray, List.set_cons_zero, List.set_cons_succ]
        refine wpAnyH_take (i := 2) (oi := _) (v := .slice (some ⟨b, off, none⟩) n cap) rfl (by kernel_rfl) (by kernel_rfl) (by kernel_rfl) (fun _ _ _ h => h) (Or.inl ⟨by rfl, by intro W hW; obtain ⟨q1, q2⟩ := hW; go_simp⟩) hHeld ?_
        try simp only [Act.put, List.getElem_toArray, List.getElem_cons_zero, List.getElem_cons_succ, List.setIfInBounds_toArray, List.set_cons_zero, List.set_cons_succ]
        refine wpAnyH_take (i := 3) (oi := _) (v := .int .i64 n) rfl (by kernel_rfl) (by kernel_rfl) (by kernel_rfl) (fun _ _ _ h => h) (Or.inl ⟨by rfl, by intro W hW; clear hW; go_simp⟩) hHeld ?_
        try simp only [Act.put, List.getElem_toArray, List.getElem_cons_zero, List.getElem_cons_succ, List.setIfInBounds_toArray, List.set_cons_zero, List.set_cons_succ]
        refine wpAnyH_ready (rs := [1]) (by kernel_rfl) (by simp) ?_
        refine AllReadyH.cons (o := _) rfl (fun K hK => ?_) AllReadyH.nil
        clear hHeld
        go_simp
        go_at_call 82
        refine hwalk.mono ?_
        rintro e w5 ⟨rfl, hg5, E5, hS5, hE5⟩
        have hk2 := And.intro hS5.hw (by have := hS5.hv; rw [HN.out] at this; exact this)
        refine hK.out _ _ (by first | exact hk2 | exact hk1) (fun hHeld => ?_)
        clear hK K
        try simp only [Act.put, List.getElem_toArray, List.getElem_cons_zero, List.getElem_cons_succ, List.setIfInBounds_toArray, List.set_cons_zero, List.set_cons_succ]
        refine wpAnyH_take (i := 4) (oi := _) (v := .bool (!D)) rfl (by kernel_rfl) (by kernel_rfl) (by kernel_rfl) (fun _ _ _ h => h) (Or.inl ⟨by rfl, by intro W hW; clear hW; go_simp; all_goals exact hnq⟩) hHeld ?_
        try simp only [Act.put, List.getElem_toArray, List.getElem_cons_zero, List.getElem_cons_succ, List.setIfInBounds_toArray, List.set_cons_zero, List.set_cons_succ]
        refine wpAnyH_done (by kernel_rfl) ?_ _
        have hb05 : Below w.heap.size w w5 := hS5.below
        have e5 := hS5.he
        rw [HN.out] at e5
        cases D with
        | true =>
          have hbh := of_decide_eq_true HD.out
          go_wp2
          go_ret
          exact GOOD.out hbh _ _ E5 hb05 (by omega) hS5.hE ⟨by rw [hS5.len], fun i hi => hE5.2 n hbh i (Nat.zero_le _) (by rw [HN.out] at hi; exact hi)⟩
        | false =>
          have hbh := of_decide_eq_false HD.out
          go_wp2
          go_ret
          exact BAD.out hbh _ hb05
      · have hE : ¬ nm.toList = [] := fun g => hem ((e0_nil nm).2 g)
        have hEe : nm.toList.isEmpty = false := by simpa using hE
        have hbw : b < w.heap.size := by omega
        have hbad := bad (by rw [hmc, decide_eq_false hem]; simp)
        clear bad hmc hx hW hem
        go_enter Tryz.func71, Tryz.ntmps71
        go_wp2
        go_ret
        exact hbad _ (hbx _)
    · have h2I : (2048 : Int) < n := by omega
      have hbad := bad (by rw [hmc, hN, decide_eq_false h2]; simp)
      clear bad hmc hx hW
      go_enter Tryz.func71, Tryz.ntmps71
      go_wp2
      go_ret
      exact hbad _ (hbx _)
end
section
open Go.RowKit
/-- what every call of this package is given -/
structure In (xs : List Cel) (A : Option Addr) (w : World) (B : Nat) : Prop where
  rd : Rd w B A (cv xs)
  le : B ≤ w.heap.size
  len : xs.length ≤ maxLen
  tabs : Tabs w
  wf : ∀ c ∈ xs, CelW maxLen c
theorem In.below {xs : List Cel} {A : Option Addr} {w w' : World} {B : Nat} (h : In xs A w B) (hb : Below w.heap.size w w') : In xs A w' B :=
  ⟨h.rd.thru hb h.le, Nat.le_trans h.le hb.size, h.len, h.tabs.below hb, h.wf⟩
theorem In.behind {xs : List Cel} {A : Option Addr} {w : World} {B : Nat} (h : In xs A w B) (cap : Nat) : Calls Tryz.prog 71 #[.slice A xs.length cap] w fun e w' => BehindPost xs w e w' :=
  behind_any A cap w h.rd h.le h.len h.tabs h.wf
theorem eql_nil (w : World) (a : Option Addr) (n c n' c' : Nat) : (binOp .eql 93 (.slice a n c) (.slice none n' c')).run Tryz.prog w = .ok (.bool a.isNone) w :=
  Lib.run_eql_slice_nil w _ _ a n c n' c' Tryz.underlying93
theorem check_any2 {xs : List Cel} (A : Option Addr) (cap : Nat) (w : World) {B : Nat} (h : In xs A w B) :
    Calls Tryz.prog 54 #[.slice A xs.length cap] w fun e w' => e = .returned (.int .i64 (checkC xs)) ∧ Below w.heap.size w w' := by
  have hc := h.behind cap
  have hq := eql_nil
  clear h
  obtain ⟨V, hV⟩ : ∃ V, checkC xs = V := ⟨_, rfl⟩
  rw [hV]
  go_enter Tryz.func54, Tryz.ntmps54
  go_wp2_with fail
  refine hc.mono ?_
  rintro e w1 ⟨hb, ⟨hm, rfl⟩ | ⟨hm, bE, E, rfl, _⟩⟩
  · have hv : V = 8 := by rw [← hV, checkC, hm]; rfl
    subst hv
    clear hm hV
    go_wp2
    go_ret
    exact ⟨rfl, hb⟩
  · have hv : V = 0 := by rw [← hV, checkC, hm]; rfl
    subst hv
    clear hm hV
    go_wp2
    go_ret
    exact ⟨rfl, hb⟩
def AskedPost (xs : List Cel) (a : Int) (w : World) (e : Ending) (w' : World) : Prop :=
  Below w.heap.size w w' ∧ ((askedC xs a ≠ 0 ∧ e = .returned (.tuple #[.slice none 0 0, .int .i64 (askedC xs a)])) ∨
    (askedC xs a = 0 ∧ mayC xs = true ∧ ∃ (i : Nat) (bE : Nat) (E : List Int), a = i ∧ i < xs.length ∧ e = .returned (.tuple #[.slice (some ⟨bE, 0, none⟩) xs.length xs.length, .int .i64 0]) ∧ w.heap.size ≤ bE ∧ w'.heap[bE]? = some (.cells (iv E).toArray 3) ∧ EndsAll xs E))
set_option maxHeartbeats 1000000 in
theorem asked_any {xs : List Cel} (A : Option Addr) (cap : Nat) (a : Int) (w : World) {B : Nat} (h : In xs A w B) :
    Calls Tryz.prog 84 #[.slice A xs.length cap, .int .i64 a] w fun e w' => AskedPost xs a w e w' := by
  have hc := h.behind cap
  have hq := eql_nil
  clear h
  obtain ⟨V, hV⟩ : ∃ V, askedC xs a = V := ⟨_, rfl⟩
  have bad : ∀ v : Int, V = v → v ≠ 0 → ∀ w', Below w.heap.size w w' → AskedPost xs a w (.returned (.tuple #[.slice none 0 0, .int .i64 v])) w' := fun v hv hne w' hb => by
    subst hv
    exact ⟨hb, .inl ⟨by rw [hV]; exact hne, by rw [hV]⟩⟩
  have good : V = 0 → mayC xs = true → 0 ≤ a → a < xs.length → ∀ w' bE E, Below w.heap.size w w' → w.heap.size ≤ bE → w'.heap[bE]? = some (.cells (iv E).toArray 3) → EndsAll xs E →
      AskedPost xs a w (.returned (.tuple #[.slice (some ⟨bE, 0, none⟩) xs.length xs.length, .int .i64 0])) w' := fun hv hm g0 g1 w' bE E hb r1 r2 r3 =>
    ⟨hb, .inr ⟨by rw [hV]; exact hv, hm, a.toNat, bE, E, by omega, by omega, rfl, r1, r2, r3⟩⟩
  have BAD := Lib.hid bad
  have GOOD := Lib.hid good
  clear bad good
  by_cases h0 : 0 ≤ a
  · have g0 : decide (a < 0) = false := by simp; omega
    by_cases h1 : a < xs.length
    · have g1 : decide ((xs.length : Int) ≤ a) = false := by simp; omega
      go_enter Tryz.func84, Tryz.ntmps84
      go_wp2_with fail
      refine hc.mono ?_
      rintro e w1 ⟨hb, ⟨hm, rfl⟩ | ⟨hm, bE, E, rfl, r1, r2, r3⟩⟩
      · have hv : V = 8 := by rw [← hV, askedC, hm]; rfl
        have HV := Lib.hid hv
        clear hm hV hv
        go_wp2
        go_ret2
        exact BAD.out 8 HV.out (by decide) _ hb
      · have hv : V = 0 := by rw [← hV, askedC, hm, if_pos rfl, if_pos ⟨h0, h1⟩]
        have G := Lib.hid (GOOD.out hv hm h0 h1 w1 bE E hb r1 r2 r3)
        clear hm hV r2 r3 hv
        go_wp2
        go_ret2
        exact G.out
    · have g1 : decide ((xs.length : Int) ≤ a) = true := by simp; omega
      go_enter Tryz.func84, Tryz.ntmps84
      go_wp2_with fail
      refine hc.mono ?_
      rintro e w1 ⟨hb, ⟨hm, rfl⟩ | ⟨hm, bE, E, rfl, r1, r2, r3⟩⟩
      · have hv : V = 8 := by rw [← hV, askedC, hm]; rfl
        have HV := Lib.hid hv
        clear hm hV hv
        go_wp2
        go_ret2
        exact BAD.out 8 HV.out (by decide) _ hb
      · have hv : V = 2 := by rw [← hV, askedC, hm, if_pos rfl, if_neg (by omega)]
        have HV := Lib.hid hv
        clear hm hV r1 r2 r3 hv
        go_wp2
        go_ret2
        exact BAD.out 2 HV.out (by decide) _ hb
  · have g0 : decide (a < 0) = true := by simp; omega
    go_enter Tryz.func84, Tryz.ntmps84
    go_wp2_with fail
    refine hc.mono ?_
    rintro e w1 ⟨hb, ⟨hm, rfl⟩ | ⟨hm, bE, E, rfl, r1, r2, r3⟩⟩
    · have hv : V = 8 := by rw [← hV, askedC, hm]; rfl
      have HV := Lib.hid hv
      clear hm hV hv
      go_wp2
      go_ret2
      exact BAD.out 8 HV.out (by decide) _ hb
    · have hv : V = 2 := by rw [← hV, askedC, hm, if_pos rfl, if_neg (by omega)]
      have HV := Lib.hid hv
      clear hm hV r1 r2 r3 hv
      go_wp2
      go_ret2
      exact BAD.out 2 HV.out (by decide) _ hb
def endN (xs : List Cel) (i : Nat) : Nat := (bh xs 16 i).getD 0
theorem EndsAll.at' {xs : List Cel} {E : List Int} (h : EndsAll xs E) {i : Nat} (hi : i < xs.length) : bh xs 16 i = some (endN xs i) ∧ E.getD i 0 = (endN xs i : Int) ∧ i < endN xs i ∧ endN xs i ≤ xs.length := by
  obtain ⟨n, h1, h2⟩ := h.2 i hi
  have h3 := bh_gt xs 16 i n h1
  have e : endN xs i = n := by rw [endN, h1]; rfl
  rw [e]
  exact ⟨h1, h2, h3⟩
theorem end_cell {w : World} {bE : Nat} {E : List Int} {xs : List Cel} (hE : w.heap[bE]? = some (.cells (iv E).toArray 3)) (h : EndsAll xs E) {i : Nat} (hi : i < xs.length) : w.cell? ⟨bE, i, none⟩ = some (.int .i64 (endN xs i)) := by
  have hl : i < E.length := by rw [h.1]; exact hi
  have := (h.at' hi).2.1
  rw [cell_of_row w bE i _ _ (0, 0) hE]
  simp only [iv, List.getElem?_toArray, List.getElem?_map, List.getElem?_eq_getElem hl, Option.map_some]
  rw [← this, List.getD_eq_getElem?_getD, List.getElem?_eq_getElem hl, Option.getD_some]
def endR (xs : List Cel) (a : Int) : Int := if askedC xs a = 0 then endN xs a.toNat else 0
open Go.RowKit
def kidsN (xs : List Cel) : Nat → Nat → List Nat
  | 0, _ => []
  | m + 1, q => q :: kidsN xs m (endN xs q)
def iterE (xs : List Cel) : Nat → Nat → Nat
  | 0, q => q
  | m + 1, q => iterE xs m (endN xs q)
theorem iterE_succ (xs : List Cel) : ∀ m q, iterE xs (m + 1) q = endN xs (iterE xs m q)
  | 0, _ => rfl
  | m + 1, q => by rw [iterE, iterE_succ xs m]; rfl
theorem kidsN_len (xs : List Cel) : ∀ m q, (kidsN xs m q).length = m
  | 0, _ => rfl
  | m + 1, q => by rw [kidsN, List.length_cons, kidsN_len xs m]
theorem kidsN_succ (xs : List Cel) : ∀ m q, kidsN xs (m + 1) q = kidsN xs m q ++ [iterE xs m q]
  | 0, _ => rfl
  | m + 1, q => by
    rw [kidsN, kidsN_succ xs m]
    rfl
theorem kidsN_get (xs : List Cel) : ∀ m q j (h : j < (kidsN xs m q).length), (kidsN xs m q)[j] = iterE xs j q
  | 0, q, j, h => by simp [kidsN] at h
  | m + 1, q, 0, h => rfl
  | m + 1, q, j + 1, h => by
    have := kidsN_get xs m (endN xs q) j (by simpa [kidsN] using h)
    simpa [kidsN, iterE] using this
theorem loop_iter {xs : List Cel} {f : Nat → Option Nat} (hf : ∀ a b, f a = some b → bh xs 16 a = some b) {K : Nat} : ∀ m q ns e, q ≤ xs.length → loop f xs K m q ns = some e → iterE xs m q = e ∧ q ≤ e ∧ ∀ j, j < m → iterE xs j q < e ∧ q ≤ iterE xs j q
  | 0, q, ns, e, hq, h => by
    simp only [loop, Option.some.injEq] at h
    exact ⟨h, by omega, fun j hj => by omega⟩
  | m + 1, q, ns, e, hq, h => by
    cases hc : xs[q]? with
    | none => rw [loop, hc] at h; cases h
    | some c =>
      rw [loop_some hc] at h
      split at h
      · cases hn : f q with
        | none => rw [hn] at h; cases h
        | some nx =>
          rw [hn] at h
          simp only at h
          have hb := hf q nx hn
          have hg := bh_gt xs 16 q nx hb
          have he : endN xs q = nx := by rw [endN, hb]; rfl
          obtain ⟨h1, h2, h3⟩ := loop_iter hf m nx _ e hg.2 h
          refine ⟨by rw [iterE, he]; exact h1, by omega, fun j hj => ?_⟩
          cases j with
          | zero => exact ⟨by show q < e; omega, Nat.le_refl _⟩
          | succ j =>
            rw [iterE, he]
            have := h3 j (by omega)
            omega
      · cases h
theorem oneC_leaf {c : Cel} (h : oneC c = true) (hk : ¬ nest c) : c.many = 0 := by
  have h6 : ¬ c.kind = 6 := fun e => hk (.inl e)
  have h7 : ¬ c.kind = 7 := fun e => hk (.inr e)
  unfold oneC at h
  repeat' split at h
  all_goals (try simp only [Bool.and_eq_true, decide_eq_true_eq] at h)
  all_goals (first | exact h.2 | omega | cases h)
/-- what stands in a cell of a value: so many, one behind the other, up to its end -/
theorem kids_facts {xs : List Cel} {i : Nat} {c : Cel} {e : Nat} (hc : xs[i]? = some c) (hb : bh xs 16 i = some e) : iterE xs c.many.toNat (i + 1) = e ∧ i + 1 ≤ e ∧ ∀ j, j < c.many.toNat → iterE xs j (i + 1) < e ∧ i + 1 ≤ iterE xs j (i + 1) := by
  have hg := bh_gt xs 16 i e hb
  have ho : oneC c = true := by
    cases h : oneC c with
    | true => rfl
    | false => rw [bh_bad hc h] at hb; cases hb
  by_cases hk : nest c
  · rw [bh_nest hc ho hk 15] at hb
    exact loop_iter (fun a b h => bh_mono xs (by omega) h) _ _ _ _ (by have := (List.getElem?_eq_some_iff.1 hc).1; omega) hb
  · rw [bh_leaf hc ho hk] at hb
    have hm := oneC_leaf ho hk
    rw [hm]
    simp only [Option.some.injEq] at hb
    exact ⟨by rw [← hb]; rfl, by omega, fun j hj => by simp at hj⟩
def kidL (xs : List Cel) (i : Nat) : List Nat := match xs[i]? with
  | none => []
  | some c => kidsN xs c.many.toNat (i + 1)
def kidsR (xs : List Cel) (a : Int) : List Int := if askedC xs a = 0 then (kidL xs a.toNat).map Int.ofNat else []
set_option maxHeartbeats 4000000 in
theorem kids_any {xs : List Cel} (A : Option Addr) (cap : Nat) (a : Int) (w : World) {B : Nat} (h : In xs A w B) (hz : xs.length ≤ 2048 ∨ mayC xs = false) :
    Calls Tryz.prog 73 #[.slice A xs.length cap, .int .i64 a] w fun e w' => ∃ v, e = .returned (.tuple #[v, .int .i64 (askedC xs a)]) ∧ w'.ownsRow w.heap.size 3 1 v (kidsR xs a).length (iv (kidsR xs a)) ∧ Below w.heap.size w w' := by
  obtain ⟨i0, hi, hz0, hz1, hz2⟩ := info_parts info_int
  have hc := asked_any A cap a w h
  clear h
  obtain ⟨V, hV⟩ : ∃ V, askedC xs a = V := ⟨_, rfl⟩
  obtain ⟨R, hR⟩ : ∃ R, kidsR xs a = R := ⟨_, rfl⟩
  unfold AskedPost at hc
  rw [hR]
  unfold kidsR at hR
  rw [hV] at hc hR ⊢
  clear hV
  have HZ := Lib.hid hz
  clear hz
  go_enter Tryz.func73, Tryz.ntmps73
  go_wp2_with fail
  refine hc.mono ?_
  rintro e w1 ⟨hb, ⟨hne, rfl⟩ | ⟨rfl, hm, i, bE, E, rfl, hil, rfl, r1, r2, r3⟩⟩
  · rw [if_neg hne] at hR
    subst hR
    have hneB : (V != 0) = true := bne_iff_ne.2 hne
    clear hne
    go_wp2
    go_ret2
    exact ⟨_, rfl, World.ownsRow_nil _ _ _ _, hb⟩
  · have hlen : xs.length ≤ 2048 := by
      rcases HZ.out with g | g
      · exact g
      · rw [hm] at g; cases g
    have hcells : ∀ j, j < xs.length → w1.cell? ⟨bE, j, none⟩ = some (.int .i64 (endN xs j)) := fun j hj => end_cell r2 r3 hj
    have hlt : bE < w1.heap.size := (Array.getElem?_eq_some_iff.1 r2).1
    obtain ⟨c, hci⟩ : ∃ c, xs[i]? = some c := ⟨xs[i], List.getElem?_eq_getElem hil⟩
    have hbi := (r3.at' hil)
    obtain ⟨f1, f2, f3⟩ := kids_facts hci hbi.1
    rw [if_pos rfl, Int.toNat_natCast, kidL, hci] at hR
    simp only at hR
    obtain ⟨m, hmm⟩ : ∃ m, c.many.toNat = m := ⟨_, rfl⟩
    rw [hmm] at f1 f3 hR
    obtain ⟨n, hn⟩ : ∃ n, endN xs i = n := ⟨_, rfl⟩
    rw [hn] at f1 f2 f3 hbi
    have hq : ∀ j, j < m → iterE xs j (i + 1) < xs.length := fun j hj => Nat.lt_of_lt_of_le (f3 j hj).1 hbi.2.2.2
    have hen : n ≤ 2048 := by omega
    have hEI := hcells i hil
    rw [hn] at hEI
    have hiI : (i : Int) < xs.length := by omega
    have HR := Lib.hid hR
    have F1 := Lib.hid f1
    have F3 := Lib.hid f3
    have HQ := Lib.hid hq
    have HCELLS := Lib.hid hcells
    clear hm r2 r3 hbi hmm hci hR hn f1 f3 hq hcells HZ
    go_wp2
    go_loopw [4, 7] (fun v vn wr => ∃ j q, j ≤ m ∧ iterE xs j (i + 1) = q ∧ q ≤ n ∧ j + i + 1 ≤ q ∧ vn = .int .i64 q ∧ wr.ownsRow w1.heap.size 3 1 v j (iv ((kidsN xs j (i + 1)).map Int.ofNat)) ∧ Below w1.heap.size w1 wr) (fun _ vn _ => n - (intOf vn).toNat)
    case atStart => exact ⟨0, i + 1, Nat.zero_le _, rfl, f2, by omega, by go_num, World.ownsRow_nil _ _ _ _, Below.refl _ _⟩
    case round =>
      obtain ⟨j, q, hj, hjq, hqn, hji, rfl, hown, hbr⟩ := hrel
      have hEr := (hbr.cell (p := ⟨bE, i, none⟩) hlt).trans hEI
      have hbs := hbr.size
      obtain ⟨A2, c2, rfl, hc2, hcm⟩ := own_slice hown
      by_cases hlt2 : j < m
      · have hlt3 := (F3.out j hlt2).1
        rw [hjq] at hlt3
        have hql := HQ.out j hlt2
        rw [hjq] at hql
        have hqI : (q : Int) < xs.length := by omega
        have hq1 := HCELLS.out q hql
        obtain ⟨nx, hnx⟩ : ∃ nx, endN xs q = nx := ⟨_, rfl⟩
        rw [hnx] at hq1
        have hcq := (hbr.cell (p := ⟨bE, q, none⟩) hlt).trans hq1
        have hnx2 : iterE xs (j + 1) (i + 1) = nx := by rw [iterE_succ, hjq, hnx]
        have hnxn : nx ≤ n ∧ q < nx := by
          refine ⟨?_, ?_⟩
          · by_cases g : j + 1 < m
            · have := (F3.out (j + 1) g).1
              omega
            · have : j + 1 = m := by omega
              rw [← hnx2, this, F1.out]
              exact Nat.le_refl _
          · have h1 : bh xs 16 q = some nx ∨ bh xs 16 q = none := by
              cases g : bh xs 16 q with
              | none => exact .inr rfl
              | some y => left; rw [← hnx, endN, g]; rfl
            rcases h1 with h1 | h1
            · exact (bh_gt xs 16 q nx h1).1
            · exfalso
              have : nx = 0 := by rw [← hnx, endN, h1]; rfl
              by_cases g : j + 1 < m
              · have := (F3.out (j + 1) g).2
                omega
              · have e1 : j + 1 = m := by omega
                rw [e1, F1.out] at hnx2
                omega
        have hsucc := kidsN_succ xs j (i + 1)
        rw [hjq] at hsucc
        have HS := Lib.hid hsucc
        have HN2 := Lib.hid hnx2
        have HXN := Lib.hid hnxn
        have hjn : j ≤ 2048 := by omega
        have hltd : decide ((q : Int) < n) = true := by simp; omega
        clear hjq hnx hsucc hnx2 hnxn
        go_wp2_with (first | (at_builtin; refine wpList_append_rd _ (by rfl) _ _ _ (by rfl) w1.heap.size 3 i0 (.int .i64 0) 8 Tryz.underlying93 hi hz0 hz1 hz2 (by rfl) (.slice A2 j c2) j (iv ((kidsN xs j (i + 1)).map Int.ofNat)) (by rfl) (hown.alloc _) (B := wr.heap.size + 1) (some ⟨wr.heap.size, 0, none⟩) 1 1 [.int .i64 q] (by rfl) (rd_new wr #[.int .i64 q] 3 [.int .i64 q] rfl) rfl (by simp [Value.oneCell']) (by unfold maxLen; omega) (by omega) (by simp; omega) ?_; intro v5 w3 hown3 hgrow hrow; have hB3 : Below w1.heap.size w1 w3 := Below.grown (hbr.alloc (by omega) _) hgrow (by simp; omega) hrow; have hcq3 := (hB3.cell (p := ⟨bE, q, none⟩) hlt).trans hq1))
        go_roundw
        case rel => exact ⟨j + 1, nx, by omega, HN2.out, HXN.out.1, by have := HXN.out; omega, rfl, by rw [HS.out]; simpa [iv] using hown3, hB3⟩
        case measure => simp [intOf]; have := HXN.out; omega
      · obtain rfl : j = m := by omega
        have hqe : q = n := by rw [← hjq, F1.out]
        subst hqe
        have hltd : decide ((q : Int) < q) = false := by simp
        clear hjq
        have HO := Lib.hid hown
        go_wp2
        go_ret2
        refine ⟨_, rfl, ?_, hb.trans (hbr.mono hb.size)⟩
        rw [← HR.out, List.length_map, kidsN_len]
        exact own_base HO.out hb.size
open Go.RowKit
def nameAt (xs : List Cel) (q : Nat) : ByteArray := match xs[q]? with
  | none => e0
  | some c => c.name
def kindAt (xs : List Cel) (q : Nat) : Nat := match xs[q]? with
  | none => 0
  | some c => c.kind
def isNm (xs : List Cel) (nm : ByteArray) (q : Nat) : Bool := decide (nameAt xs q = nm)
def memF (p : Nat → Bool) : List Nat → Nat → Int
  | [], _ => -1
  | q :: r, j => if p q = true then (j : Int) else memF p r (j + 1)
theorem memF_spec (p : Nat → Bool) : ∀ (l : List Nat) (j : Nat), (l.find? p = none ∧ memF p l j = -1) ∨ ∃ k, ∃ h : k < l.length, l.find? p = some l[k] ∧ memF p l j = ((j + k : Nat) : Int)
  | [], j => .inl ⟨rfl, rfl⟩
  | q :: r, j => by
    cases h : p q with
    | true =>
      right
      exact ⟨0, by simp, by simp [h], by simp [memF, h]⟩
    | false =>
      rcases memF_spec p r (j + 1) with ⟨h1, h2⟩ | ⟨k, hk, h1, h2⟩
      · left
        exact ⟨by rw [List.find?_cons_of_neg (by simp [h])]; exact h1, by rw [memF, if_neg (by simp [h])]; exact h2⟩
      · right
        refine ⟨k + 1, by simp; omega, by rw [List.find?_cons_of_neg (by simp [h])]; simpa using h1, ?_⟩
        rw [memF, if_neg (by simp [h]), h2]
        congr 1
        omega
theorem memF_drop {p : Nat → Bool} {l : List Nat} {k : Nat} (h : k < l.length) (j : Nat) : memF p (l.drop k) j = if p l[k] = true then (j : Int) else memF p (l.drop (k + 1)) (j + 1) := by
  rw [List.drop_eq_getElem_cons h, memF]
theorem name_cell {w0 w : World} {xs : List Cel} {A : Option Addr} {B q : Nat} (hx : Rd w0 B A (cv xs)) (hB : B ≤ w0.heap.size) (hb : Below w0.heap.size w0 w) (hq : q < xs.length) :
    ∃ b off, A = some ⟨b, off, none⟩ ∧ b < w0.heap.size ∧ w.cell? ⟨b, off + q * 5 + 1, none⟩ = some (.string (nameAt xs q)) ∧ w.cell? ⟨b, off + q * 5, none⟩ = some (.int .u8 (kindAt xs q)) := by
  obtain ⟨b, off, rfl, h1, c0, c1, _⟩ := hx.cel1 (List.getElem?_eq_getElem hq)
  have hbw : b < w0.heap.size := by omega
  refine ⟨b, off, rfl, hbw, (hb.cell (p := ⟨b, off + q * 5 + 1, none⟩) hbw).trans ?_, (hb.cell (p := ⟨b, off + q * 5, none⟩) hbw).trans ?_⟩
  · rw [c1, nameAt, List.getElem?_eq_getElem hq]
  · rw [c0, kindAt, List.getElem?_eq_getElem hq]
set_option maxHeartbeats 1000000 in
theorem member1_any {b off cap q n : Nat} {nm nq : ByteArray} (bv bn : Nat) (w : World) (hv : w.cell? ⟨bv, 0, none⟩ = some (.slice (some ⟨b, off, none⟩) n cap)) (hn : w.cell? ⟨bn, 0, none⟩ = some (.string nm)) (hc : w.cell? ⟨b, off + q * 5 + 1, none⟩ = some (.string nq)) (hq : q < n) :
    Calls Tryz.prog 75 #[.int .i64 q, .pointer (some ⟨bv, 0, none⟩), .pointer (some ⟨bn, 0, none⟩)] w fun e w' => e = .returned (.bool (decide (nq = nm))) ∧ Below w.heap.size w w' := by
  have hqI : (q : Int) < n := by omega
  rw [← ba_beq]
  go_enter Tryz.func75, Tryz.ntmps75
  go_wp2
  go_quiet (fail)
  go_wp2
  go_ret
  exact ⟨rfl, Below.of_drewN _ _ _⟩
set_option maxHeartbeats 2000000 in
theorem indexFunc_any {xs : List Cel} {A : Option Addr} {cap : Nat} {nm : ByteArray} {l : List Nat} {Al : Option Addr} {cl : Nat} (bv bn : Nat) (w0 w : World) {B : Nat} (hx : Rd w0 B A (cv xs)) (hB : B ≤ w0.heap.size) (hbw : Below w0.heap.size w0 w) (hv : w.cell? ⟨bv, 0, none⟩ = some (.slice A xs.length cap)) (hn : w.cell? ⟨bn, 0, none⟩ = some (.string nm))
    (hl : Rd w w.heap.size Al (iv (l.map Int.ofNat))) (hq : ∀ q ∈ l, q < xs.length) (hlen : l.length ≤ 2048) :
    Calls Tryz.prog 74 #[.slice Al l.length cl, .func (.func 75) #[] #[.pointer (some ⟨bv, 0, none⟩), .pointer (some ⟨bn, 0, none⟩)]] w fun e w' => e = .returned (.int .i64 (memF (isNm xs nm) l 0)) ∧ Below w.heap.size w w' := by
  obtain ⟨V, hV⟩ : ∃ V, memF (isNm xs nm) l 0 = V := ⟨_, rfl⟩
  rw [hV]
  have HV := Lib.hid hV
  have lv : bv < w.heap.size := World.block_lt_of_cell? w _ hv
  have ln : bn < w.heap.size := World.block_lt_of_cell? w _ hn
  clear hV
  go_enter Tryz.func74, Tryz.ntmps74
  go_wp2
  go_loopw [8] (fun i wr => ∃ k : Nat, k ≤ l.length ∧ i = .int .i64 k ∧ memF (isNm xs nm) (l.drop k) k = V ∧ Below w.heap.size w wr) (fun i _ => l.length - (intOf i).toNat)
  case atStart => exact ⟨0, Nat.zero_le _, rfl, by rw [List.drop_zero, HV.out], Below.refl _ _⟩
  case round =>
    obtain ⟨k, hk, rfl, hd, hb⟩ := hrel
    by_cases hlt : k < l.length
    · rw [memF_drop hlt] at hd
      obtain ⟨b2, off2, rfl, hb2, hc2⟩ := hl.at' (k := k) (by simp [iv]; exact hlt)
      have hck := (hb.cell (p := ⟨b2, off2 + k, none⟩) hb2).trans (hc2 k (by simp [iv]; exact hlt))
      simp only [iv, List.getElem_map, Int.ofNat_eq_natCast] at hck
      have hql := hq l[k] (List.getElem_mem hlt)
      obtain ⟨b, off, rfl, hbb, n1, _⟩ := name_cell hx hB (hbw.trans (hb.mono hbw.size)) hql
      have hin : isNm xs nm l[k] = decide (nameAt xs l[k] = nm) := rfl
      have hv' := (hb.cell (p := ⟨bv, 0, none⟩) lv).trans hv
      have hn' := (hb.cell (p := ⟨bn, 0, none⟩) ln).trans hn
      have hcall := member1_any bv bn wr hv' hn' n1 hql
      rw [← hin] at hcall
      obtain ⟨q, hqq⟩ : ∃ q, l[k] = q := ⟨_, rfl⟩
      rw [hqq] at hd hck hcall
      have hlI : (k : Int) < l.length := by omega
      have HL := Lib.hid hl
      have HX := Lib.hid hx
      have HQ := Lib.hid hq
      clear hl hx hq hc2 hqq hv' hn' n1 hin hql
      cases hp : isNm xs nm q with
      | true =>
        rw [hp, if_pos rfl] at hd
        subst hd
        rw [hp] at hcall
        clear hp HV
        go_wp2_with (go_at_call 75; refine hcall.mono ?_; rintro e w3 ⟨rfl, hb3⟩)
        go_ret
        exact ⟨rfl, hb.trans (hb3.mono hb.size)⟩
      | false =>
        rw [hp, if_neg (by simp)] at hd
        rw [hp] at hcall
        have HD := Lib.hid hd
        clear hp hd
        go_wp2_with (go_at_call 75; refine hcall.mono ?_; rintro e w3 ⟨rfl, hb3⟩)
        go_roundw
        case rel => exact ⟨k + 1, hlt, by go_num, HD.out, hb.trans (hb3.mono hb.size)⟩
        case measure => simp [intOf]; omega
    · obtain rfl : k = l.length := by omega
      rw [List.drop_of_length_le (Nat.le_refl _)] at hd
      have hv2 : V = -1 := by rw [← hd]; rfl
      subst hv2
      clear hd HV
      go_wp2
      go_ret
      exact ⟨rfl, hb⟩
def memR (xs : List Cel) (a : Int) (nm : ByteArray) : Option Nat := if askedC xs a = 0 ∧ kindAt xs a.toNat = 7 then (kidL xs a.toNat).find? (isNm xs nm) else none
theorem kidL_lt {xs : List Cel} {i e : Nat} (hb : bh xs 16 i = some e) : ∀ q ∈ kidL xs i, q < xs.length := by
  intro q hq
  have hg := bh_gt xs 16 i e hb
  unfold kidL at hq
  cases hc : xs[i]? with
  | none => rw [hc] at hq; simp at hq
  | some c =>
    rw [hc] at hq
    simp only at hq
    obtain ⟨j, hj, rfl⟩ := List.getElem_of_mem hq
    rw [kidsN_get]
    rw [kidsN_len] at hj
    have := (kids_facts hc hb).2.2 j hj
    omega
theorem mayC_len {xs : List Cel} (h : mayC xs = true) : xs.length ≤ 2048 := by
  unfold mayC at h
  simp only [Bool.and_eq_true, decide_eq_true_eq] at h
  exact h.1.1.2
theorem mayC_bh {xs : List Cel} (h : mayC xs = true) : bh xs 16 0 = some xs.length := by
  unfold mayC at h
  simp only [Bool.and_eq_true, decide_eq_true_eq] at h
  exact h.2
theorem askedC_ok {xs : List Cel} {a : Int} (h : askedC xs a = 0) : mayC xs = true ∧ 0 ≤ a ∧ a.toNat < xs.length := by
  unfold askedC at h
  cases hm : mayC xs with
  | false => rw [hm] at h; simp at h
  | true =>
    rw [hm, if_pos rfl] at h
    split at h
    · exact ⟨rfl, by omega, by omega⟩
    · cases h
open Go.RowKit
theorem loop_inner {xs : List Cel} {f : Nat → Option Nat} (hf : ∀ a e, f a = some e → a < e ∧ ∀ i, a ≤ i → i < e → ∃ n, bh xs 16 i = some n ∧ n ≤ e) {K : Nat} : ∀ m q ns e, loop f xs K m q ns = some e → q ≤ e ∧ ∀ i, q ≤ i → i < e → ∃ n, bh xs 16 i = some n ∧ n ≤ e
  | 0, q, ns, e, h => by
    simp only [loop, Option.some.injEq] at h
    exact ⟨by omega, fun i h1 h2 => by omega⟩
  | m + 1, q, ns, e, h => by
    cases hc : xs[q]? with
    | none => rw [loop, hc] at h; cases h
    | some c =>
      rw [loop_some hc] at h
      split at h
      · cases hn : f q with
        | none => rw [hn] at h; cases h
        | some nx =>
          rw [hn] at h
          simp only at h
          obtain ⟨g1, g2⟩ := hf q nx hn
          obtain ⟨h1, h2⟩ := loop_inner hf m nx _ e h
          refine ⟨by omega, fun i i1 i2 => ?_⟩
          by_cases hi : i < nx
          · obtain ⟨n, k1, k2⟩ := g2 i i1 hi
            exact ⟨n, k1, by omega⟩
          · exact h2 i (by omega) i2
      · cases h
theorem bh_inner {xs : List Cel} : ∀ d, d ≤ 16 → ∀ a e, bh xs d a = some e → a < e ∧ ∀ i, a ≤ i → i < e → ∃ n, bh xs 16 i = some n ∧ n ≤ e := by
  intro d
  induction d with
  | zero =>
    intro hd a e h
    have hg := bh_gt xs 0 a e h
    refine ⟨hg.1, fun i h1 h2 => ?_⟩
    cases hc : xs[a]? with
    | none => unfold bh at h; rw [hc] at h; cases h
    | some c =>
      have h' := h
      unfold bh at h
      rw [hc] at h
      simp only at h
      split at h
      · simp only [Option.some.injEq] at h
        obtain rfl : i = a := by omega
        exact ⟨e, bh_mono xs (by omega) h', Nat.le_refl _⟩
      · cases h
  | succ d ih =>
    intro hd a e h
    have hg := bh_gt xs (d + 1) a e h
    refine ⟨hg.1, fun i h1 h2 => ?_⟩
    by_cases hi : i = a
    · subst hi
      exact ⟨e, bh_mono xs hd h, Nat.le_refl _⟩
    · cases hc : xs[a]? with
      | none => rw [bh, hc] at h; cases h
      | some c =>
        cases ho : oneC c with
        | false => rw [bh_bad hc ho] at h; cases h
        | true =>
          by_cases hk : nest c
          · rw [bh_nest hc ho hk] at h
            exact (loop_inner (ih (by omega)) _ _ _ _ h).2 i (by omega) h2
          · rw [bh_leaf hc ho hk] at h
            simp only [Option.some.injEq] at h
            omega
theorem may_ends {xs : List Cel} (h : mayC xs = true) {i : Nat} (hi : i < xs.length) : bh xs 16 i = some (endN xs i) ∧ i < endN xs i ∧ endN xs i ≤ xs.length := by
  obtain ⟨n, h1, h2⟩ := (bh_inner 16 (Nat.le_refl _) 0 _ (mayC_bh h)).2 i (Nat.zero_le _) hi
  have e : endN xs i = n := by rw [endN, h1]; rfl
  rw [e]
  exact ⟨h1, (bh_gt xs 16 i n h1).1, h2⟩
set_option maxRecDepth 100000 in
set_option maxHeartbeats 4000000 in
theorem member_any {xs : List Cel} (A : Option Addr) (cap : Nat) (a : Int) (nm : ByteArray) (w : World) {B : Nat} (h : In xs A w B) :
    Calls Tryz.prog 57 #[.slice A xs.length cap, .int .i64 a, .string nm] w fun e w' => e = .returned (.tuple #[.int .i64 ((memR xs a nm).getD 0 : Nat), .bool (memR xs a nm).isSome]) ∧ Below w.heap.size w w' := by
  have hb0 : Below w.heap.size w ((w.alloc (.cells #[.slice A xs.length cap] 26)).alloc (.cells #[.string nm] 9)) := ((Below.refl _ _).alloc (Nat.le_refl _) _).alloc (by simp) _
  have hv0 : ((w.alloc (.cells #[.slice A xs.length cap] 26)).alloc (.cells #[.string nm] 9)).cell? ⟨w.heap.size, 0, none⟩ = some (.slice A xs.length cap) := Lib.cell?_alloc_some _ (by simp only [World.cell?, heap_alloc_new]; rfl)
  have hn0 : ((w.alloc (.cells #[.slice A xs.length cap] 26)).alloc (.cells #[.string nm] 9)).cell? ⟨w.heap.size + 1, 0, none⟩ = some (.string nm) := by
    have := heap_alloc_new (w.alloc (.cells #[.slice A xs.length cap] 26)) (.cells #[.string nm] 9)
    rw [World.size_alloc] at this
    simp only [World.cell?, this]
    rfl
  obtain ⟨W0, hW0⟩ : ∃ W0, ((w.alloc (.cells #[.slice A xs.length cap] 26)).alloc (.cells #[.string nm] 9)) = W0 := ⟨_, rfl⟩
  have hs0 : w.heap.size + 1 < W0.heap.size := by rw [← hW0]; simp
  rw [hW0] at hb0 hv0 hn0
  by_cases hz : xs.length ≤ 2048 ∨ mayC xs = false
  · have hk := kids_any A cap a W0 (h.below hb0) hz
    obtain ⟨V, hV⟩ : ∃ V, askedC xs a = V := ⟨_, rfl⟩
    obtain ⟨R, hR⟩ : ∃ R, memR xs a nm = R := ⟨_, rfl⟩
    rw [hR]
    by_cases hV0 : V = 0
    · subst hV0
      obtain ⟨hm, ha0, hal⟩ := askedC_ok hV
      obtain ⟨i, rfl⟩ : ∃ i : Nat, a = i := ⟨a.toNat, by omega⟩
      rw [Int.toNat_natCast] at hal
      have hbi := (may_ends hm hal).1
      have hkl := kidL_lt hbi
      rw [hV] at hk
      rw [kidsR, if_pos hV, Int.toNat_natCast] at hk
      unfold memR at hR
      rw [Int.toNat_natCast] at hR
      have hiI : (i : Int) < xs.length := by omega
      have hlen : (kidL xs i).length ≤ 2048 := by
        have hc := List.getElem?_eq_getElem hal
        have hf := kids_facts hc hbi
        rw [kidL, hc]
        simp only
        rw [kidsN_len]
        have := mayC_len hm
        have := (may_ends hm hal).2.2
        by_cases g : (xs[i]).many.toNat = 0
        · omega
        · have hall : ∀ j, j < (xs[i]).many.toNat → j ≤ iterE xs j (i + 1) := by
            intro j
            induction j with
            | zero => intro _; omega
            | succ j ih =>
              intro hj
              have h1 := ih (by omega)
              have h2 := hf.2.2 j (by omega)
              rw [iterE_succ]
              have := (may_ends hm (i := iterE xs j (i + 1)) (by omega)).2.1
              omega
          have := hall ((xs[i]).many.toNat - 1) (by omega)
          have := hf.2.2 ((xs[i]).many.toNat - 1) (by omega)
          omega
      obtain ⟨l, hl⟩ : ∃ l, kidL xs i = l := ⟨_, rfl⟩
      rw [hl] at hk hR hkl hlen
      obtain ⟨b, off, rfl, hbw, _, k1⟩ := name_cell h.rd h.le hb0 hal
      obtain ⟨kd, hkd⟩ : ∃ kd, kindAt xs i = kd := ⟨_, rfl⟩
      rw [hkd] at k1 hR
      have hbw0 : b < W0.heap.size := by have := hb0.size; omega
      go_enter Tryz.func57, Tryz.ntmps57
      go_wp2_with fail
      refine hk.mono ?_
      rintro e w1 ⟨v, rfl, hown, hb1⟩
      rw [List.length_map] at hown
      obtain ⟨A2, c2, rfl, hc2, hcm⟩ := own_slice hown
      have v1 := (hb1.cell (p := ⟨w.heap.size, 0, none⟩) (by show w.heap.size < _; omega)).trans hv0
      have n1 := (hb1.cell (p := ⟨w.heap.size + 1, 0, none⟩) hs0).trans hn0
      have k2 := (hb1.cell (p := ⟨b, off + i * 5, none⟩) hbw0).trans k1
      have hb01 := hb0.trans (hb1.mono hb0.size)
      by_cases h7 : kd = 7
      · subst h7
        rw [if_pos ⟨hV, rfl⟩] at hR
        have hrd := Rd.of_own hown
        have hix := indexFunc_any (cl := c2) (nm := nm) w.heap.size (w.heap.size + 1) w w1 h.rd h.le hb01 v1 n1 hrd hkl hlen
        rcases memF_spec (isNm xs nm) l 0 with ⟨g1, g2⟩ | ⟨k, hkl2, g1, g2⟩
        · rw [g1] at hR
          subst hR
          rw [g2] at hix
          have H1 := Lib.hid hl
          clear hk hown hrd hl hkl hV hkd hbi g1 g2 h hm
          go_wp2_with (first | (go_at_call 74; refine hix.mono ?_; rintro e w3 ⟨rfl, hb3⟩))
          go_ret2
          exact ⟨rfl, hb01.trans (hb3.mono hb01.size)⟩
        · rw [g1] at hR
          subst hR
          rw [g2, Nat.zero_add] at hix
          obtain ⟨b3, off3, rfl, hb3l, hc3⟩ := hrd.at' (k := k) (by simp [iv]; exact hkl2)
          have hck := hc3 k (by simp [iv]; exact hkl2)
          simp only [iv, List.getElem_map, Int.ofNat_eq_natCast] at hck
          have hkI : (k : Int) < l.length := by omega
          have HIX := Lib.hid hix
          obtain ⟨q, hqq⟩ : ∃ q, l[k] = q := ⟨_, rfl⟩
          rw [hqq] at hck
          clear hk hown hrd hl hkl hV hkd hbi g1 g2 h hm hc3
          go_wp2_with (first | (go_at_call 74; refine hix.mono ?_; rintro e w3 ⟨rfl, hb3⟩; have hck3 := (hb3.cell (p := ⟨b3, off3 + k, none⟩) hb3l).trans hck))
          go_ret2
          exact ⟨by rw [hqq]; rfl, hb01.trans (hb3.mono hb01.size)⟩
      · rw [if_neg (fun g => h7 g.2)] at hR
        subst hR
        have hkB : ((kd : Int) != 7) = true := bne_iff_ne.2 (by omega)
        clear hk hown hl hkl hV hkd hbi h hm h7
        go_wp2
        go_ret2
        exact ⟨rfl, hb01⟩
    · have hRn : R = none := by rw [← hR, memR, if_neg (fun g => hV0 (by rw [← hV]; exact g.1))]
      subst hRn
      rw [hV] at hk
      have hneB : (V != 0) = true := bne_iff_ne.2 hV0
      clear hR hV hV0
      go_enter Tryz.func57, Tryz.ntmps57
      go_wp2_with fail
      refine hk.mono ?_
      rintro e w1 ⟨v, rfl, hown, hb1⟩
      have v1 := (hb1.cell (p := ⟨w.heap.size, 0, none⟩) (by show w.heap.size < _; omega)).trans hv0
      obtain ⟨A2, c2, rfl, hc2, hcm⟩ := own_slice hown
      clear hown hk
      go_wp2
      go_ret2
      exact ⟨rfl, hb0.trans (hb1.mono hb0.size)⟩
  · exfalso
    refine hz (.inr ?_)
    cases hm : mayC xs with
    | false => rfl
    | true => exact absurd (.inl (mayC_len hm)) hz
end
section
open Go.RowKit
def bare : List Cel → List Cel
  | [] => []
  | c :: r => { c with name := e0 } :: r
def subL (xs : List Cel) (i : Nat) : List Cel := bare ((xs.drop i).take (endN xs i - i))
def subR (xs : List Cel) (a : Int) : List Cel := if askedC xs a = 0 then subL xs a.toNat else []
theorem cv_drop : ∀ (i : Nat) (xs : List Cel), cv (xs.drop i) = (cv xs).drop (i * 5)
  | 0, xs => by simp
  | i + 1, [] => by simp [cv]
  | i + 1, c :: r => by
    rw [List.drop_succ_cons, cv_drop i r, show (i + 1) * 5 = i * 5 + 5 by omega]
    simp [cv]
theorem cv_take : ∀ (i : Nat) (xs : List Cel), cv (xs.take i) = (cv xs).take (i * 5)
  | 0, xs => by simp [cv]
  | i + 1, [] => by simp [cv]
  | i + 1, c :: r => by
    rw [List.take_succ_cons, show (i + 1) * 5 = i * 5 + 5 by omega]
    simp [cv, cv_take i r]
theorem rd_sub {w : World} {B b off : Nat} {xs : List Cel} (h : Rd w B (some ⟨b, off, none⟩) (cv xs)) (i k : Nat) : Rd w B (some ⟨b, off + i * 5, none⟩) (cv ((xs.drop i).take k)) := by
  rcases h with h | ⟨b', off', e, hb, hc⟩
  · left
    have : xs = [] := List.eq_nil_of_length_eq_zero (by have := cv_len xs; rw [h] at this; simp at this; omega)
    subst this
    simp [cv]
  · right
    simp only [Option.some.injEq, Addr.mk.injEq, and_true] at e
    obtain ⟨rfl, rfl⟩ := e
    refine ⟨b, off + i * 5, rfl, hb, fun j hj => ?_⟩
    rw [cv_take, List.length_take, cv_drop, List.length_drop] at hj
    have e1 : (cv ((xs.drop i).take k))[j]'(by rw [cv_take, List.length_take, cv_drop, List.length_drop]; exact hj) = (cv xs)[i * 5 + j]'(by omega) := by
      simp only [cv_take, cv_drop, List.getElem_take, List.getElem_drop]
    rw [e1, Nat.add_assoc]
    exact hc (i * 5 + j) (by omega)
theorem cv_bare (xs : List Cel) (h : xs ≠ []) : cv (bare xs) = (cv xs).set 1 (.string ⟨#[]⟩) := by
  cases xs with
  | nil => exact absurd rfl h
  | cons c r => simp [bare, cv, e0]
theorem bare_len (xs : List Cel) : (bare xs).length = xs.length := by cases xs <;> rfl
theorem own_set {w : World} {base g n c sz : Nat} {e : TypeId} {xs : List Value} (h : w.ownsRow base e sz (.slice (some ⟨g, 0, none⟩) n c) n xs) (i : Nat) (v : Value) (hi : i < xs.length) :
    (w.setCell ⟨g, i, none⟩ v).ownsRow base e sz (.slice (some ⟨g, 0, none⟩) n c) n (xs.set i v) := by
  refine ⟨by rw [List.length_set]; exact h.1, ?_⟩
  rcases h.2 with ⟨h3, _⟩ | ⟨g', cap, cur, h3, hg, hh, hnc, hc, hs, ht⟩
  · simp at h3
  · simp only [Value.slice.injEq, Option.some.injEq, Addr.mk.injEq, and_true, true_and] at h3
    obtain ⟨rfl, rfl⟩ := h3
    right
    refine ⟨g, c, cur.setIfInBounds i v, rfl, hg, by simp [World.setCell, Array.getElem?_modify, hh], hnc, hc, by simpa using hs, ?_⟩
    subst ht
    rw [List.length_take] at hi
    rw [Array.toList_setIfInBounds]
    apply List.ext_getElem?
    intro j
    simp only [List.getElem?_take, List.getElem?_set, List.length_take]
    by_cases hj : j < n * sz
    · simp only [hj, if_true]
      by_cases hij : i = j
      · subst hij
        have : i < cur.toList.length := by omega
        simp only [if_true]
        rw [if_pos this, if_pos (by omega)]
      · simp only [hij, if_false]
    · simp only [hj, if_false]
      rw [if_neg (by omega)]
theorem own_some {w : World} {base n sz : Nat} {e : TypeId} {v : Value} {xs : List Value} (h : w.ownsRow base e sz v n xs) (hn : 0 < n) : ∃ g c cur, v = .slice (some ⟨g, 0, none⟩) n c ∧ base ≤ g ∧ n ≤ c ∧ c ≤ maxLen ∧ w.heap[g]? = some (.cells cur e) ∧ cur.size = c * sz ∧ cur.toList.take (n * sz) = xs := by
  rcases h.2 with ⟨_, h3⟩ | ⟨g, cap, cur, h3, hg, hh, hnc, hc, hs, ht⟩
  · omega
  · exact ⟨g, cap, cur, h3, hg, hnc, hc, hh, hs, ht⟩
set_option maxHeartbeats 4000000 in
theorem sub_any {xs : List Cel} (A : Option Addr) (cap : Nat) (a : Int) (w : World) {B : Nat} (h : In xs A w B) (hcap : xs.length ≤ cap) (_hcm : cap ≤ maxLen) :
    Calls Tryz.prog 76 #[.slice A xs.length cap, .int .i64 a] w fun e w' => ∃ v, e = .returned (.tuple #[v, .int .i64 (askedC xs a)]) ∧ w'.ownsRow w.heap.size 47 5 v (subR xs a).length (cv (subR xs a)) ∧ Below w.heap.size w w' := by
  unfold maxLen at _hcm
  have hc := asked_any A cap a w h
  obtain ⟨V, hV⟩ : ∃ V, askedC xs a = V := ⟨_, rfl⟩
  obtain ⟨R, hR⟩ : ∃ R, subR xs a = R := ⟨_, rfl⟩
  unfold AskedPost at hc
  rw [hR]
  unfold subR at hR
  rw [hV] at hc hR ⊢
  clear hV
  have HIN := Lib.hid h
  clear h
  go_enter Tryz.func76, Tryz.ntmps76
  go_wp2_with fail
  refine hc.mono ?_
  rintro e w1 ⟨hb, ⟨hne, rfl⟩ | ⟨rfl, hm, i, bE, E, rfl, hil, rfl, r1, r2, r3⟩⟩
  · rw [if_neg hne] at hR
    subst hR
    have hneB : (V != 0) = true := bne_iff_ne.2 hne
    clear hne
    go_wp2
    go_ret2
    exact ⟨_, rfl, World.ownsRow_nil _ _ _ _, hb⟩
  · have hEI := end_cell r2 r3 hil
    have hiI : (i : Int) < xs.length := by omega
    obtain ⟨b, off, rfl, _, _⟩ := HIN.out.rd.cel1 (List.getElem?_eq_getElem hil)
    obtain ⟨_, _, g1, g2⟩ := r3.at' hil
    rw [if_pos rfl, Int.toNat_natCast, subL] at hR
    obtain ⟨n, hn⟩ : ∃ n, endN xs i = n := ⟨_, rfl⟩
    rw [hn] at hEI g1 g2 hR
    have hml := mayC_len hm
    obtain ⟨ys, hys⟩ : ∃ ys, (xs.drop i).take (n - i) = ys := ⟨_, rfl⟩
    have hyl : ys.length = n - i := by rw [← hys]; simp; omega
    have hcl := clone_any (xs := ys) b (off + i * 5) (cap - i) w1 (B := B) (by rw [← hys]; exact rd_sub (HIN.out.rd.thru hb HIN.out.le) i (n - i)) (by omega)
    rw [hyl] at hcl
    rw [hys] at hR
    have hniI : ((n - i : Nat) : Int) = (n : Int) - i := by omega
    clear r2 r3 hm hn hys hc
    go_wp2_with fail
    refine hcl.mono ?_
    rintro e w2 ⟨v, rfl, hown, hb2⟩
    obtain ⟨g, c2, cur, rfl, q1, q2, q3, q4, q5, q6⟩ := own_some hown (by omega)
    have hcell : ∃ x, w2.cell? ⟨g, 1, none⟩ = some x := by
      refine ⟨cur[1]'(by rw [q5]; omega), ?_⟩
      rw [cell_of_row w2 g 1 _ _ (0, 0) q4, Array.getElem?_eq_getElem]
    obtain ⟨x, hx⟩ := hcell
    have hfz : w2.frozen? ⟨g, 1, none⟩ = false := by simp [World.frozen?, q4]
    have hnz : (0 : Int) < ((n - i : Nat) : Int) := by omega
    have HO := Lib.hid hown
    clear q4 q5 q6 hown hcl
    go_wp2
    go_ret2
    refine ⟨_, rfl, ?_, (hb.trans (hb2.mono hb.size)).setCell (by have := hb.size; show w.heap.size ≤ g; omega) _⟩
    rw [← hR, bare_len, hyl, cv_bare ys (by intro e; rw [e] at hyl; simp at hyl; omega)]
    exact own_base (own_set HO.out 1 _ (by rw [cv_len]; omega)) hb.size
end
end Go.Proofs.YtcgioepbooafcaaGreatDoor
