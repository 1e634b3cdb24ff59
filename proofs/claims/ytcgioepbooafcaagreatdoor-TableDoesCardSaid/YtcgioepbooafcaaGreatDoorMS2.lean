/- The law's spoil: it writes over a table's own memory, and nothing else. Conditions: lengths within the model's. The law's spoil, walked. Conditions: lengths within the model's. -/
import Derived.Test.YtcgioepbooafcaaGreatDoorMS1
namespace Go.Proofs.YtcgioepbooafcaaGreatDoor
section
open Go.RowKit
/-- but for blocks from base to top nothing that was there has turned -/
structure Apart (base top : Nat) (w w' : World) : Prop where
  os : w'.os = w.os
  tape : w'.tape = w.tape
  output : w'.output = w.output
  size : w.heap.size ≤ w'.heap.size
  block : ∀ k, (k < base ∨ top ≤ k) → k < w.heap.size → w'.heap[k]? = w.heap[k]?
variable {base top : Nat} {w w1 w2 : World}
theorem Apart.refl : Apart base top w w := ⟨rfl, rfl, rfl, Nat.le_refl _, fun _ _ _ => rfl⟩
theorem Apart.trans (h : Apart base top w w1) (k : Apart base top w1 w2) : Apart base top w w2 :=
  ⟨k.os.trans h.os, k.tape.trans h.tape, k.output.trans h.output, Nat.le_trans h.size k.size, fun i hi hl => (k.block i hi (Nat.lt_of_lt_of_le hl h.size)).trans (h.block i hi hl)⟩
theorem Apart.of (h : Below w.heap.size w w1) : Apart base top w w1 := ⟨h.os, h.tape, h.output, h.size, fun k _ hl => h.block k hl⟩
theorem Apart.set (g i : Nat) (v : Value) (h0 : base ≤ g) (h1 : g < top) : Apart base top w (w.setCell ⟨g, i, none⟩ v) :=
  ⟨rfl, rfl, rfl, by simp [World.setCell], fun k hk _ => (grown_set w g i v).block k ‹_› (by simp only [ne_eq, Option.some.injEq]; omega)⟩
theorem Apart.below (h : Apart base top w w1) (hb : base ≤ w.heap.size) : Below base w w1 := ⟨h.os, h.tape, h.output, h.size, fun k hk => h.block k (.inl hk) (Nat.lt_of_lt_of_le hk hb)⟩
theorem Apart.cell (h : Apart base top w w1) {g i : Nat} (hg : top ≤ g) (hl : g < w.heap.size) : w1.cell? ⟨g, i, none⟩ = w.cell? ⟨g, i, none⟩ := World.cell?_of_block (w := w) (h.block g (.inr hg) hl)
/-- the data of one record: nothing, or a block of its own -/
def DataAt (w : World) (base top : Nat) (A : Option Addr) (n : Nat) : Prop := n = 0 ∨ ∃ gd, ∃ ds : Array Value, A = some ⟨gd, 0, none⟩ ∧ base ≤ gd ∧ gd < top ∧ w.heap[gd]? = some (.cells ds 47 (0, 0)) ∧ n * 5 ≤ ds.size
/-- a table's own memory, whatever stands in it -/
structure Shape (w : World) (base top : Nat) (Au : Option Addr) (nu : Nat) (Ar : Option Addr) (nr : Nat) (dv : Nat → Option Addr × Nat × Nat) : Prop where
  us : nu = 0 ∨ ∃ gu, ∃ cs : Array Value, Au = some ⟨gu, 0, none⟩ ∧ base ≤ gu ∧ gu < top ∧ w.heap[gu]? = some (.cells cs 9 (0, 0)) ∧ nu ≤ cs.size
  rows : nr = 0 ∨ ∃ gr, ∃ cs : Array Value, Ar = some ⟨gr, 0, none⟩ ∧ base ≤ gr ∧ gr < top ∧ w.heap[gr]? = some (.cells cs 28 (0, 0)) ∧ nr * 2 ≤ cs.size ∧ ∀ j, j < nr → cs[j * 2 + 1]? = some (.slice (dv j).1 (dv j).2.1 (dv j).2.2) ∧ DataAt w base top (dv j).1 (dv j).2.1
theorem set_block {T : TypeId} {cs : Array Value} {g g2 i : Nat} {v : Value} (h : w.heap[g2]? = some (.cells cs T (0, 0))) : ∃ cs' : Array Value, (w.setCell ⟨g, i, none⟩ v).heap[g2]? = some (.cells cs' T (0, 0)) ∧ cs'.size = cs.size ∧ ∀ j, (g ≠ g2 ∨ j ≠ i) → cs'[j]? = cs[j]? := by
  by_cases e : g = g2
  · subst e
    refine ⟨cs.setIfInBounds i v, by simp [World.setCell, Array.getElem?_modify, h], by simp, fun j hj => ?_⟩
    have : j ≠ i := by rcases hj with h | h; exact absurd rfl h; exact h
    rw [Array.getElem?_setIfInBounds, if_neg (by omega)]
  · refine ⟨cs, ?_, rfl, fun _ _ => rfl⟩
    rw [(grown_set w g i v).block g2 (Array.getElem?_eq_some_iff.1 h).1 (by simp only [ne_eq, Option.some.injEq]; exact fun h => e h.symm)]
    exact h
variable {Au Ar : Option Addr} {nu nr : Nat} {dv : Nat → Option Addr × Nat × Nat}
theorem DataAt.set {A : Option Addr} {n g i : Nat} {v : Value} (h : DataAt w base top A n) : DataAt (w.setCell ⟨g, i, none⟩ v) base top A n := by
  rcases h with h | ⟨gd, ds, e, h0, h1, h2, h3⟩
  · exact .inl h
  · obtain ⟨ds', k1, k2, _⟩ := set_block (g := g) (i := i) (v := v) h2
    exact .inr ⟨gd, ds', e, h0, h1, k1, by omega⟩
theorem Shape.set (h : Shape w base top Au nu Ar nr dv) {g i : Nat} (v : Value) (hne : ∀ cs, w.heap[g]? = some (.cells cs 28 (0, 0)) → i % 2 = 0) : Shape (w.setCell ⟨g, i, none⟩ v) base top Au nu Ar nr dv := by
  refine ⟨?_, ?_⟩
  · rcases h.us with h | ⟨gu, cs, e, h0, h1, h2, h3⟩
    · exact .inl h
    · obtain ⟨cs', k1, k2, _⟩ := set_block (g := g) (i := i) (v := v) h2
      exact .inr ⟨gu, cs', e, h0, h1, k1, by omega⟩
  · rcases h.rows with h | ⟨gr, cs, e, h0, h1, h2, h3, h4⟩
    · exact .inl h
    · obtain ⟨cs', k1, k2, k3⟩ := set_block (g := g) (i := i) (v := v) h2
      refine .inr ⟨gr, cs', e, h0, h1, k1, by omega, fun j hj => ?_⟩
      obtain ⟨h5, h6⟩ := h4 j hj
      refine ⟨?_, h6.set⟩
      rw [k3 _ ?_]
      · exact h5
      · by_cases eg : g = gr
        · right
          subst eg
          have := hne cs h2
          omega
        · exact .inl eg
theorem Shape.move (h : Shape w base top Au nu Ar nr dv) (q : ∀ k, base ≤ k → k < top → w1.heap[k]? = w.heap[k]?) : Shape w1 base top Au nu Ar nr dv := by
  refine ⟨?_, ?_⟩
  · rcases h.us with h | ⟨gu, cs, e, h0, h1, h2, h3⟩
    · exact .inl h
    · exact .inr ⟨gu, cs, e, h0, h1, (q gu h0 h1).trans h2, h3⟩
  · rcases h.rows with h | ⟨gr, cs, e, h0, h1, h2, h3, h4⟩
    · exact .inl h
    · refine .inr ⟨gr, cs, e, h0, h1, (q gr h0 h1).trans h2, h3, fun j hj => ?_⟩
      obtain ⟨h5, h6⟩ := h4 j hj
      refine ⟨h5, ?_⟩
      rcases h6 with h6 | ⟨gd, ds, e6, d0, d1, d2, d3⟩
      · exact .inl h6
      · exact .inr ⟨gd, ds, e6, d0, d1, (q gd d0 d1).trans d2, d3⟩
theorem Shape.below (h : Shape w base top Au nu Ar nr dv) (q : Below top w w1) : Shape w1 base top Au nu Ar nr dv := h.move fun k _ h1 => q.block k h1
theorem Shape.apart {b2 t2 : Nat} (h : Shape w base top Au nu Ar nr dv) (q : Apart b2 t2 w w1) (hd : top ≤ b2 ∨ t2 ≤ base) (ht : top ≤ w.heap.size) : Shape w1 base top Au nu Ar nr dv := h.move fun k h0 h1 => q.block k (by omega) (by omega)
theorem blk_cell {T : TypeId} {cs : Array Value} {g i : Nat} (h : w.heap[g]? = some (.cells cs T (0, 0))) (hi : i < cs.size) : (∃ v, w.cell? ⟨g, i, none⟩ = some v) ∧ w.frozen? ⟨g, i, none⟩ = false := by
  refine ⟨⟨cs[i], ?_⟩, by simp [World.frozen?, h]⟩
  rw [cell_of_row w g i cs _ (0, 0) h, Array.getElem?_eq_getElem hi]
end
section
open Go.RowKit
set_option maxRecDepth 100000 in
set_option maxHeartbeats 8000000 in
theorem spoil27_any (nm : ByteArray) (mo : Int) (Au : Option Addr) (nu cu : Nat) (Ar : Option Addr) (nr cr : Nat) (dv : Nat → Option Addr × Nat × Nat) (w : World) {base top : Nat} (h : Shape w base top Au nu Ar nr dv) (ht : top ≤ w.heap.size) (hu : nu ≤ 1000) (hr : nr ≤ 1000) (hd : ∀ j, j < nr → (dv j).2.1 ≤ 1000000) :
    Calls Tryz.prog 21 #[.agg #[.string nm, .int .i64 mo, .slice Au nu cu, .slice Ar nr cr]] w fun e w' => e = .returned (.tuple #[]) ∧ Apart base top w w' := by
  obtain ⟨W1, hW1⟩ : ∃ W1, W1 = w.alloc (.cells #[.string nm, .int .i64 mo, .slice Au nu cu, .slice Ar nr cr] 25) := ⟨_, rfl⟩
  have hw1 : Below w.heap.size w W1 := by rw [hW1]; exact (Below.refl _ _).alloc (Nat.le_refl _) _
  have hz : W1.heap.size = w.heap.size + 1 := by rw [hW1]; simp
  have f : Four W1 w.heap.size (.string nm) (.int .i64 mo) (.slice Au nu cu) (.slice Ar nr cr) := by rw [hW1]; exact Four.new w _ _ _ _ _
  have a01 : Apart base top w W1 := Apart.of hw1
  have kF : ∀ W, Apart base top W1 W → W.cell? ⟨w.heap.size, 2, none⟩ = some (.slice Au nu cu) ∧ W.cell? ⟨w.heap.size, 3, none⟩ = some (.slice Ar nr cr) := fun W q =>
    ⟨(q.cell (i := 2) ht (by omega)).trans f.c2, (q.cell (i := 3) ht (by omega)).trans f.c3⟩
  have KF := Lib.hid kF
  have s1 : Shape W1 base top Au nu Ar nr dv := h.below (hw1.mono ht)
  have S1 := Lib.hid s1
  have A01 := Lib.hid a01
  have HW1 := Lib.hid hW1
  have HD := Lib.hid hd
  clear h hd hw1 hz f a01 kF s1 hW1
  go_enter Tryz.func21, Tryz.ntmps21
  go_wp2
  rw [← HW1.out]
  go_loopw [2] (fun i wr => ∃ k : Nat, k ≤ nr ∧ i = .int .i64 k ∧ Shape wr base top Au nu Ar nr dv ∧ Apart base top W1 wr) (fun i _ => nr - (intOf i).toNat)
  case atStart => exact ⟨0, Nat.zero_le _, rfl, S1.out, Apart.refl⟩
  case round =>
    obtain ⟨k, hk, rfl, sh, ap⟩ := hrel
    have HS := Lib.hid (And.intro sh ap)
    obtain ⟨wo, hwo⟩ : ∃ wo : World, wo = wr := ⟨_, rfl⟩
    rw [← hwo] at HS sh ap ⊢
    clear hwo
    obtain ⟨g2, g3⟩ := KF.out wo ap
    by_cases hlt : k < nr
    · have hkI : (k : Int) < nr := by omega
      obtain ⟨gr, cs0, rfl, b0, b1, _, _, _⟩ := sh.rows.resolve_left (by omega)
      have hdn := HD.out k hlt
      obtain ⟨⟨A, n, c⟩, hdk⟩ : ∃ D, dv k = D := ⟨_, rfl⟩
      rw [hdk] at hdn
      have hdn' : n ≤ 1000000 := hdn
      have kR : ∀ W, Shape W base top Au nu (some ⟨gr, 0, none⟩) nr dv → W.cell? ⟨gr, k * 2 + 1, none⟩ = some (.slice A n c) ∧ ((∃ v, W.cell? ⟨gr, k * 2, none⟩ = some v) ∧ W.frozen? ⟨gr, k * 2, none⟩ = false) ∧ (n = 0 ∨ ∃ gd, A = some ⟨gd, 0, none⟩ ∧ base ≤ gd ∧ gd < top ∧ ∃ ds : Array Value, W.heap[gd]? = some (.cells ds 47 (0, 0)) ∧ n * 5 ≤ ds.size) := fun W sh => by
        obtain ⟨gr', cs, e, _, _, hblk, hsz, hda⟩ := sh.rows.resolve_left (by omega)
        simp only [Option.some.injEq, Addr.mk.injEq, and_true] at e
        subst e
        obtain ⟨h1, h2⟩ := hda k hlt
        rw [hdk] at h1 h2
        refine ⟨?_, blk_cell hblk (by omega), ?_⟩
        · rw [cell_of_row W gr (k * 2 + 1) cs _ (0, 0) hblk]; exact h1
        · rcases h2 with h2 | ⟨gd, ds, e, d0, d1, d2, d3⟩
          · exact .inl h2
          · exact .inr ⟨gd, e, d0, d1, ds, d2, d3⟩
      have KR := Lib.hid kR
      have r1 := (kR wo sh).1
      clear kR hdk hdn sh
      go_wp2
      go_loopw [3] (fun i wr => ∃ j : Nat, j ≤ n ∧ i = .int .i64 j ∧ Shape wr base top Au nu (some ⟨gr, 0, none⟩) nr dv ∧ Apart base top W1 wr) (fun i _ => n - (intOf i).toNat)
      case atStart => exact ⟨0, Nat.zero_le _, rfl, HS.out.1, HS.out.2⟩
      case round =>
        clear g2 g3 r1 HS
        obtain ⟨j, hj, rfl, sh, ap⟩ := hrel
        obtain ⟨wp, hwp⟩ : ∃ wp : World, wp = wr := ⟨_, rfl⟩
        rw [← hwp] at sh ap ⊢
        clear hwp
        have HS := Lib.hid (And.intro sh ap)
        obtain ⟨g2, g3⟩ := KF.out wp ap
        obtain ⟨r1, ⟨⟨v0, r0⟩, rf⟩, rd⟩ := KR.out wp sh
        by_cases hjn : j < n
        · have hjI : (j : Int) < n := by omega
          obtain ⟨gd, rfl, d0, d1, ds, d2, d3⟩ := rd.resolve_left (by omega)
          obtain ⟨⟨v4, e4⟩, f4⟩ := blk_cell (i := j * 5 + 4) d2 (by omega)
          have nx : Shape (wp.setCell ⟨gd, j * 5 + 4, none⟩ (.int .i64 (-7))) base top Au nu (some ⟨gr, 0, none⟩) nr dv := sh.set _ fun cs hc => by
            rw [d2] at hc
            simp at hc
          have na : Apart base top W1 (wp.setCell ⟨gd, j * 5 + 4, none⟩ (.int .i64 (-7))) := ap.trans (Apart.set gd _ _ d0 d1)
          have HN := Lib.hid (And.intro nx na)
          clear nx na d2 d3 sh r0 rf rd
          go_wp2
          go_roundw
          case rel => exact ⟨j + 1, hjn, by go_num, HN.out.1, HN.out.2⟩
          case measure => simp [intOf]; omega
        · obtain rfl : j = n := by omega
          have hjd : decide (j < j) = false := by simp
          have nx : Shape (wp.setCell ⟨gr, k * 2, none⟩ (.string ⟨#[115, 112, 111, 105, 108, 116]⟩)) base top Au nu (some ⟨gr, 0, none⟩) nr dv := sh.set _ fun cs hc => by omega
          have na : Apart base top W1 (wp.setCell ⟨gr, k * 2, none⟩ (.string ⟨#[115, 112, 111, 105, 108, 116]⟩)) := ap.trans (Apart.set gr _ _ b0 b1)
          have HN := Lib.hid (And.intro nx na)
          clear nx na sh rd
          go_wp2
          go_roundw
          case rel => exact ⟨k + 1, hlt, by go_num, HN.out.1, HN.out.2⟩
          case measure => simp [intOf]; omega
    · obtain rfl : k = nr := by omega
      have hkd : decide (k < k) = false := by simp
      clear sh ap
      go_wp2
      go_loopw [4] (fun i wr => ∃ j : Nat, j ≤ nu ∧ i = .int .i64 j ∧ Shape wr base top Au nu Ar k dv ∧ Apart base top W1 wr) (fun i _ => nu - (intOf i).toNat)
      case atStart => exact ⟨0, Nat.zero_le _, rfl, HS.out.1, HS.out.2⟩
      case round =>
        clear g2 g3 HS
        obtain ⟨j, hj, rfl, sh, ap⟩ := hrel
        obtain ⟨g2, g3⟩ := KF.out wr ap
        by_cases hjn : j < nu
        · have hjI : (j : Int) < nu := by omega
          obtain ⟨gu, cs, rfl, b0, b1, hblk, hsz⟩ := sh.us.resolve_left (by omega)
          obtain ⟨⟨v4, e4⟩, f4⟩ := blk_cell (i := j) hblk (by omega)
          have nx : Shape (wr.setCell ⟨gu, j, none⟩ (.string ⟨#[115, 112, 111, 105, 108, 116]⟩)) base top (some ⟨gu, 0, none⟩) nu Ar k dv := sh.set _ fun cs hc => by
            rw [hblk] at hc
            simp at hc
          have na : Apart base top W1 (wr.setCell ⟨gu, j, none⟩ (.string ⟨#[115, 112, 111, 105, 108, 116]⟩)) := ap.trans (Apart.set gu _ _ b0 b1)
          have HN := Lib.hid (And.intro nx na)
          clear nx na sh hblk hsz
          go_wp2
          go_roundw
          case rel => exact ⟨j + 1, hjn, by go_num, HN.out.1, HN.out.2⟩
          case measure => simp [intOf]; omega
        · obtain rfl : j = nu := by omega
          have hjd : decide (j < j) = false := by simp
          have HA := Lib.hid (A01.out.trans ap)
          clear sh ap
          go_wp2
          go_end0
          exact ⟨rfl, HA.out⟩
end
end Go.Proofs.YtcgioepbooafcaaGreatDoor
