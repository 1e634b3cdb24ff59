/- The reference's Great and Twin, cell.Twin; what spoil leaves. Conditions: lengths within the model's. -/
import Derived.Test.YtmaefhnlipcmoaaDoorFnS
import Derived.Test.YtmaefhnlipcmoaaDoorWst
import Derived.Test.YtmaefhnlipcmoaaDoorShelf2
namespace Go.Proofs.YtmaefhnlipcmoaaDoor
open Go.RowKit
def big (c : Cel) : Bool := decide (300 < c.name.size) || decide (3000 < c.text.size)
def greatC (xs : List Cel) (most : Nat) : Bool := (xs.take most).any big || decide (most < xs.length)
theorem greatC_not {xs : List Cel} {most : Nat} (h : greatC xs most = false) : xs.length ≤ most ∧ ∀ c ∈ xs, c.name.size ≤ 300 ∧ c.text.size ≤ 3000 := by
  unfold greatC at h
  simp only [Bool.or_eq_false_iff, decide_eq_false_iff_not] at h
  have hl : xs.length ≤ most := by omega
  refine ⟨hl, fun c hc => ?_⟩
  rw [List.take_of_length_le hl, List.any_eq_false] at h
  have := h.1 c hc
  unfold big at this
  simp at this
  omega
set_option maxHeartbeats 2000000 in
theorem great_ref {xs : List Cel} (A : Option Addr) (cap most : Nat) (w : World) {B : Nat} (hx : Rd w B A (cv xs)) (_hn : xs.length ≤ maxLen) (hm : most ≤ 1000) :
    Calls Tryd.prog 8 #[.slice A xs.length cap, .int .i64 most] w fun e w' => e = .returned (.bool (greatC xs most)) ∧ w' = w := by
  unfold maxLen at _hn
  obtain ⟨n, hN⟩ : ∃ n, xs.length = n := ⟨_, rfl⟩
  obtain ⟨V, hV⟩ : ∃ V, greatC xs most = V := ⟨_, rfl⟩
  rw [hV]
  have hg1 : ∀ k, k < n → k < most → (∃ h : k < xs.length, big xs[k] = true) → V = true := by
    rintro k h1 h2 ⟨h, hb⟩
    rw [← hV, greatC, Bool.or_eq_true]
    left
    rw [List.any_eq_true]
    exact ⟨xs[k], List.mem_iff_getElem.2 ⟨k, by rw [List.length_take]; omega, by simp⟩, hb⟩
  have hg2 : (∀ k, k < n → k < most → ∀ h : k < xs.length, big xs[k] = false) → V = decide (most < n) := by
    intro h
    rw [← hV, greatC, hN, List.any_eq_false.2, Bool.false_or]
    intro c hc
    obtain ⟨k, hk, rfl⟩ := List.getElem_of_mem hc
    rw [List.length_take] at hk
    rw [List.getElem_take, h k (by omega) (by omega) (by omega)]
    simp
  have G1 := Lib.hid hg1
  have G2 := Lib.hid hg2
  rw [hN] at _hn ⊢
  have HN := Lib.hid hN
  clear hg1 hg2 hV hN
  go_enter Tryd.func8, Tryd.ntmps8
  go_wp2
  go_loopw [5] (fun i wr => ∃ k : Nat, k ≤ n ∧ k ≤ most ∧ i = .int .i64 k ∧ (∀ j, j < k → ∀ h : j < xs.length, big xs[j] = false) ∧ wr = w) (fun i _ => n - (intOf i).toNat)
  case atStart => exact ⟨0, Nat.zero_le _, Nat.zero_le _, rfl, fun j hj => by omega, rfl⟩
  case round =>
    obtain ⟨k, hk, hkm, rfl, hj, rfl⟩ := hrel
    have HJ := Lib.hid hj
    clear hj
    by_cases hlt : k < n
    · by_cases hlm : k < most
      · have hk1 : k < xs.length := by rw [HN.out]; exact hlt
        obtain ⟨b, off, rfl, hbl, _, c1, c2, _⟩ := hx.cel1 (List.getElem?_eq_getElem hk1)
        obtain ⟨x, hxk⟩ : ∃ x, xs[k] = x := ⟨_, rfl⟩
        rw [hxk] at c1 c2
        have HX := Lib.hid hxk
        have hlI : (k : Int) < n := by omega
        have hkI : (k : Int) ≤ 1000 := by omega
        have hd1 : decide ((k : Int) < n) = true := by simp; omega
        have hd2 : decide ((k : Int) < most) = true := by simp; omega
        by_cases h3 : 300 < x.name.size
        · have hv := G1.out k hlt hlm ⟨hk1, by rw [HX.out]; simp [big, h3]⟩
          subst hv
          have h3I : decide ((300 : Int) < x.name.size) = true := by simp; omega
          clear hxk hx
          go_wp2
          go_ret
          exact ⟨rfl, rfl⟩
        · have h3I : decide ((300 : Int) < x.name.size) = false := by simp; omega
          by_cases h4 : 3000 < x.text.size
          · have hv := G1.out k hlt hlm ⟨hk1, by rw [HX.out]; simp [big, h4]⟩
            subst hv
            have h4I : decide ((3000 : Int) < x.text.size) = true := by simp; omega
            clear hxk hx
            go_wp2
            go_ret
            exact ⟨rfl, rfl⟩
          · have h4I : decide ((3000 : Int) < x.text.size) = false := by simp; omega
            have hnot : big xs[k] = false := by rw [HX.out, big, decide_eq_false h3, decide_eq_false h4]; rfl
            have HNOT := Lib.hid hnot
            clear hxk hx hnot
            go_wp2
            go_roundw
            case rel => exact ⟨k + 1, hlt, hlm, by go_num, fun j hj h => by
              by_cases e : j = k
              · subst e; exact HNOT.out
              · exact HJ.out j (by omega) h, trivial⟩
            case measure => simp [intOf]; omega
      · have hv := G2.out (fun j h1 h2 h => HJ.out j (by omega) h)
        subst hv
        have hd1 : decide ((k : Int) < n) = true := by simp; omega
        have hd2 : decide ((k : Int) < most) = false := by simp; omega
        go_wp2
        go_ret
        exact ⟨ret_bool (by simp), rfl⟩
    · have hv := G2.out (fun j h1 h2 h => HJ.out j (by omega) h)
      subst hv
      have hd1 : decide ((k : Int) < n) = false := by simp; omega
      go_wp2
      go_ret
      exact ⟨ret_bool (by simp), rfl⟩
theorem info_cell : (Tryd.prog.info? 45).map (fun i => (i.zero, i.size, i.bytes)) = some (some (.agg #[.int .u8 0, .string ⟨#[]⟩, .string ⟨#[]⟩, .int .i64 0, .int .i64 0]), 5, 56) := by kernel_rfl
theorem twin_ref {xs : List Cel} (A : Option Addr) (cap : Nat) (w : World) {B : Nat} (hx : Rd w B A (cv xs)) (hn : xs.length ≤ 1000000000) :
    Calls Tryd.prog 9 #[.slice A xs.length cap] w fun e w' => ∃ v, e = .returned v ∧ w'.ownsRow w.heap.size 45 5 v xs.length (cv xs) ∧ Below w.heap.size w w' := by
  obtain ⟨i0, hi, hz0, hz1, hz2⟩ := info_parts info_cell
  go_enter Tryd.func9, Tryd.ntmps9
  go_wp2_with (first | (at_builtin; refine wpList_append_rdK _ (by rfl) _ _ _ (by rfl) w.heap.size 45 i0 (.agg #[.int .u8 0, .string ⟨#[]⟩, .string ⟨#[]⟩, .int .i64 0, .int .i64 0]) 5 56 Tryd.underlying25 hi hz0 hz1 hz2 (by rfl) (by decide) (.slice none 0 0) 0 [] (by rfl) (World.ownsRow_nil _ _ _ _) (B := B) A xs.length cap (cv xs) (by rfl) hx (cv_len xs) cv_one (by unfold maxLen; omega) (by omega) (Nat.le_refl _) ?_; intro v2 w2 ho2 hg2 hr2))
  go_ret
  refine ⟨_, rfl, by simpa using ho2, Below.grown (Below.refl _ _) hg2 (Nat.le_refl _) (fun k hk => by cases hk)⟩
theorem eql_nilC (w : World) (a : Option Addr) (n c n' c' : Nat) : (binOp .eql 25 (.slice a n c) (.slice none n' c')).run Tryd.prog w = .ok (.bool a.isNone) w :=
  Lib.run_eql_slice_nil w _ _ a n c n' c' Tryd.underlying25
theorem clone_any {xs : List Cel} (b off cap : Nat) (w : World) {B : Nat} (hx : Rd w B (some ⟨b, off, none⟩) (cv xs)) (hn : xs.length ≤ 1000000000) :
    Calls Tryd.prog 46 #[.slice (some ⟨b, off, none⟩) xs.length cap] w fun e w' => ∃ v, e = .returned v ∧ w'.ownsRow w.heap.size 45 5 v xs.length (cv xs) ∧ Below w.heap.size w w' := by
  obtain ⟨i0, hi, hz0, hz1, hz2⟩ := info_parts info_cell
  have hr : ∀ j u, (cv xs)[j]? = some u → w.cell? ⟨b, off + j, none⟩ = some u := by
    intro j u hj
    obtain ⟨hj', rfl⟩ := List.getElem?_eq_some_iff.1 hj
    obtain ⟨b', off', e, _, hc⟩ := hx.at' hj'
    simp only [Option.some.injEq, Addr.mk.injEq, and_true] at e
    obtain ⟨rfl, rfl⟩ := e
    exact hc j hj'
  have := AnyE.slices_Clone Tryd.cloneL i0 (.agg #[.int .u8 0, .string ⟨#[]⟩, .string ⟨#[]⟩, .int .i64 0, .int .i64 0]) 5 56 hi hz0 hz1 hz2 (by rfl) (by decide) Tryd.sizeOf45 b off xs.length cap (cv xs) w (cv_len xs) (by unfold maxLen; omega) (by omega) hr cv_one
  exact this.mono fun e w' ⟨v, h1, h2, _, h4⟩ => ⟨v, h1, h2, h4⟩
theorem clone_nil (cap : Nat) (w : World) : Calls Tryd.prog 46 #[.slice none 0 cap] w fun e w' => e = .returned (.slice none 0 0) ∧ w' = w :=
  AnyE.slices_Clone_nil Tryd.cloneL 0 cap w
set_option maxHeartbeats 1000000 in
theorem spoil_any {A : Option Addr} {n c : Nat} {base : Nat} {vs : List Value} (w : World) (h : w.ownsRow base 45 5 (.slice A n c) n vs) (hn : n ≤ 1000000000) :
    Calls Tryd.prog 15 #[.slice A n c] w fun e w' => e = .returned (.tuple #[]) ∧ Below base w w' ∧ w.grownBy w' (Value.slice A n c).ownBlock := by
  rcases h.2 with ⟨h3, _⟩ | ⟨g, cap, cur, h3, hg, hh, hnc, hc, hs, ht⟩
  · simp only [Value.slice.injEq] at h3
    obtain ⟨rfl, rfl, rfl⟩ := h3
    go_enter Tryd.func15, Tryd.ntmps15
    go_wp2
    refine wp_loop_rounds 1 ?_
    rw [rounds_succ]
    go_wp2
    go_end0
    exact ⟨rfl, Below.refl _ _, World.grownBy.refl _ _⟩
  · simp only [Value.slice.injEq] at h3
    obtain ⟨rfl, _, rfl⟩ := h3
    clear h ht
    go_enter Tryd.func15, Tryd.ntmps15
    go_wp2
    go_loopw [2] (fun i wr => ∃ (k : Nat) (cur' : Array Value), k ≤ n ∧ i = .int .i64 k ∧ wr.heap[g]? = some (.cells cur' 45) ∧ cur'.size = cur.size ∧ Below base w wr ∧ w.grownBy wr (some g)) (fun i _ => n - (intOf i).toNat)
    case atStart => exact ⟨0, cur, Nat.zero_le _, rfl, hh, rfl, Below.refl _ _, World.grownBy.refl _ _⟩
    case round =>
      obtain ⟨k, cur', hk, rfl, hcu, hsz, hb, hgr⟩ := hrel
      by_cases hlt : k < n
      · have hlI : (k : Int) < n := by omega
        have hin : k * 5 + 4 < cur'.size := by rw [hsz, hs]; omega
        have hcell : wr.cell? ⟨g, k * 5 + 4, none⟩ = some cur'[k * 5 + 4] := by rw [cell_of_row wr g _ _ _ (0, 0) hcu, Array.getElem?_eq_getElem hin]
        have hfz : wr.frozen? ⟨g, k * 5 + 4, none⟩ = false := by simp [World.frozen?, hcu]
        have hcell2 : ∃ x, wr.cell? ⟨g, k * 5 + 4, none⟩ = some x := ⟨_, hcell⟩
        obtain ⟨x, hx⟩ := hcell2
        have HC := Lib.hid (And.intro hcu hsz)
        clear hcell hcu hsz hh
        go_wp2
        go_roundw
        case rel => exact ⟨k + 1, cur'.setIfInBounds (k * 5 + 4) (.int .i64 (-7)), hlt, by go_num, by simp [World.setCell, Array.getElem?_modify, HC.out.1], by simp [HC.out.2], hb.setCell hg _, grown_trans hgr (grown_set _ _ _ _)⟩
        case measure => simp [intOf]; omega
      · obtain rfl : k = n := by omega
        go_wp2
        go_end0
        exact ⟨rfl, hb, hgr⟩
end Go.Proofs.YtmaefhnlipcmoaaDoor
