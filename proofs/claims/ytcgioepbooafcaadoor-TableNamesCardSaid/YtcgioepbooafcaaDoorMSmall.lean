/- The chapter's record, its small table. Conditions: short texts, small numbers; Go's two tables of utf8. The chapter's small table; what is put to it. Conditions: Go's two tables of utf8. The chapter's small table: what the code makes. Conditions: Go's two tables of utf8. -/
import Derived.Test.YtcgioepbooafcaaDoorMRef
namespace Go.Proofs.YtcgioepbooafcaaDoor
section
open Go.RowKit
def numL (n : Int) : List Cel := if n < 0 then [⟨0, ⟨#[]⟩, ⟨#[]⟩, 0, 0⟩] else [⟨2, ⟨#[]⟩, ⟨#[]⟩, n, 0⟩]
def recL (id : ByteArray) (n : Int) : List (List Cel) := [[⟨3, ⟨#[]⟩, id, 0, 0⟩], numL n]
def recN : List ByteArray := [⟨#[105, 100]⟩, ⟨#[110]⟩]
def lawR (id : ByteArray) (n : Int) : RecC := ⟨id, itemsR 7 (nmL recN) (recL id n)⟩
theorem numL_len (n : Int) : (numL n).length = 1 := by unfold numL; split <;> rfl
theorem numL_wf {n : Int} (h0 : -1000 ≤ n) (h1 : n ≤ 1000) : ∀ c ∈ numL n, CelW maxLen c := by
  intro c hc
  unfold numL at hc
  have e : (⟨#[]⟩ : ByteArray).size = 0 := rfl
  unfold maxLen
  split at hc <;> simp only [List.mem_singleton] at hc <;> subst hc <;> refine ⟨?_, ?_, ?_, ?_, ?_, ?_, ?_⟩ <;> (try simp only [e]) <;> omega
def MemW (W : World) (id : ByteArray) (g gl : Nat) : World :=
  ((W.alloc (.cells #[.string ⟨#[105, 100]⟩, .string ⟨#[110]⟩] 9)).alloc (.cells #[.int .u8 3, .string ⟨#[]⟩, .string id, .int .i64 0, .int .i64 0] 60)).alloc (.cells #[.slice (some ⟨g + 1, 0, none⟩) 1 1, .slice (some ⟨gl, 0, none⟩) 1 1] 26)
theorem mem_call (id : ByteArray) (n : Int) (h0 : -1000 ≤ n) (h1 : n ≤ 1000) (hid : id.size ≤ 1000) (g gl : Nat) (W : World) (hg : W.heap.size = g) (hr : Rd W W.heap.size (some ⟨gl, 0, none⟩) (cv (numL n))) (hT : Tabs W) :
    Calls Tryd.prog 33 #[.slice (some ⟨g, 0, none⟩) 2 2, .slice (some ⟨g + 1 + 1, 0, none⟩) 2 2] (MemW W id g gl) fun e w' => PutPost (MemW W id g gl) (lawR id n).data (putE 7 (nmL recN) (recL id n)) e w' := by
  have b1 : Below W.heap.size W (W.alloc (.cells #[.string ⟨#[105, 100]⟩, .string ⟨#[110]⟩] 9)) := (Below.refl _ _).alloc (Nat.le_refl _) _
  have b2 := b1.alloc (o := .cells #[.int .u8 3, .string ⟨#[]⟩, .string id, .int .i64 0, .int .i64 0] 60) b1.size
  have b3 := b2.alloc (o := .cells #[.slice (some ⟨g + 1, 0, none⟩) 1 1, .slice (some ⟨gl, 0, none⟩) 1 1] 26) b2.size
  have hz1 : (W.alloc (.cells #[.string ⟨#[105, 100]⟩, .string ⟨#[110]⟩] 9)).heap.size = g + 1 := by simp [hg]
  have hz2 : ((W.alloc (.cells #[.string ⟨#[105, 100]⟩, .string ⟨#[110]⟩] 9)).alloc (.cells #[.int .u8 3, .string ⟨#[]⟩, .string id, .int .i64 0, .int .i64 0] 60)).heap.size = g + 1 + 1 := by simp [hg]
  have hz3 : (MemW W id g gl).heap.size = g + 1 + 1 + 1 := by simp [MemW, hg]
  have c1 : Below (W.alloc (.cells #[.string ⟨#[105, 100]⟩, .string ⟨#[110]⟩] 9)).heap.size (W.alloc (.cells #[.string ⟨#[105, 100]⟩, .string ⟨#[110]⟩] 9)) (MemW W id g gl) := ((Below.refl _ _).alloc (Nat.le_refl _) _).alloc (by simp) _
  have c2 : Below ((W.alloc (.cells #[.string ⟨#[105, 100]⟩, .string ⟨#[110]⟩] 9)).alloc (.cells #[.int .u8 3, .string ⟨#[]⟩, .string id, .int .i64 0, .int .i64 0] 60)).heap.size ((W.alloc (.cells #[.string ⟨#[105, 100]⟩, .string ⟨#[110]⟩] 9)).alloc (.cells #[.int .u8 3, .string ⟨#[]⟩, .string id, .int .i64 0, .int .i64 0] 60)) (MemW W id g gl) := (Below.refl _ _).alloc (Nat.le_refl _) _
  have n1 : Rd (MemW W id g gl) (g + 1 + 1 + 1) (some ⟨g, 0, none⟩) (sv recN) := by
    have := (rd_new W #[.string ⟨#[105, 100]⟩, .string ⟨#[110]⟩] 9 (sv recN) rfl).thru c1 (by simp)
    rw [hg] at this
    exact this.mono (by omega)
  have n2 : Rd (MemW W id g gl) (g + 1 + 1 + 1) (some ⟨g + 1, 0, none⟩) (cv [⟨3, ⟨#[]⟩, id, 0, 0⟩]) := by
    have := (rd_new (W.alloc (.cells #[.string ⟨#[105, 100]⟩, .string ⟨#[110]⟩] 9)) #[.int .u8 3, .string ⟨#[]⟩, .string id, .int .i64 0, .int .i64 0] 60 (cv [⟨3, ⟨#[]⟩, id, 0, 0⟩]) rfl).thru c2 (by simp)
    rw [hz1] at this
    exact this.mono (by omega)
  have n3 : Rd (MemW W id g gl) (g + 1 + 1 + 1) (some ⟨gl, 0, none⟩) (cv (numL n)) := (hr.thru b3 (Nat.le_refl _)).mono (by omega)
  have k0 := box_keep (w := (W.alloc (.cells #[.string ⟨#[105, 100]⟩, .string ⟨#[110]⟩] 9)).alloc (.cells #[.int .u8 3, .string ⟨#[]⟩, .string id, .int .i64 0, .int .i64 0] 60)) (cs := #[.slice (some ⟨g + 1, 0, none⟩) 1 1, .slice (some ⟨gl, 0, none⟩) 1 1]) (T := 26) (Below.refl _ _) 0 (by simp)
  have k1 := box_keep (w := (W.alloc (.cells #[.string ⟨#[105, 100]⟩, .string ⟨#[110]⟩] 9)).alloc (.cells #[.int .u8 3, .string ⟨#[]⟩, .string id, .int .i64 0, .int .i64 0] 60)) (cs := #[.slice (some ⟨g + 1, 0, none⟩) 1 1, .slice (some ⟨gl, 0, none⟩) 1 1]) (T := 26) (Below.refl _ _) 1 (by simp)
  rw [hz2] at k0 k1
  have hS : Sets (MemW W id g gl) (g + 1 + 1 + 1) (some ⟨g + 1 + 1, 0, none⟩) (recL id n) := .inr ⟨g + 1 + 1, 0, rfl, by omega, fun k hk => by
    match k, hk with
    | 0, _ => exact ⟨_, 1, k0, n2⟩
    | 1, _ => exact ⟨_, 1, by show _ = some (Value.slice (some ⟨gl, 0, none⟩) (numL n).length 1); rw [numL_len]; exact k1, n3⟩
    | k + 2, hk => simp only [recL, List.length_cons, List.length_nil] at hk; omega⟩
  have hw : ∀ l ∈ recL id n, ∀ c ∈ l, CelW maxLen c := by
    intro l hl c hc
    simp only [recL, List.mem_cons, List.not_mem_nil, or_false] at hl
    rcases hl with rfl | rfl
    · simp only [List.mem_singleton] at hc
      subst hc
      have e : (⟨#[]⟩ : ByteArray).size = 0 := rfl
      unfold maxLen
      refine ⟨?_, ?_, ?_, ?_, ?_, ?_, ?_⟩ <;> (try simp only [e]) <;> omega
    · exact numL_wf h0 h1 c hc
  refine members_any recN (some ⟨g, 0, none⟩) 2 (some ⟨g + 1 + 1, 0, none⟩) 2 (recL id n) (MemW W id g gl) (B := g + 1 + 1 + 1) n1 hS (by omega) (hT.below b3) ?_ hw ?_ rfl (by simp [recL]; unfold maxLen; omega)
  · intro l hl
    simp only [recL, List.mem_cons, List.not_mem_nil, or_false] at hl
    unfold maxLen
    rcases hl with rfl | rfl
    · simp
    · rw [numL_len]; omega
  · intro s hs
    simp only [recN, List.mem_cons, List.not_mem_nil, or_false] at hs
    unfold maxLen
    rcases hs with rfl | rfl <;> decide
set_option maxRecDepth 100000 in
set_option maxHeartbeats 8000000 in
theorem record_any (id : ByteArray) (n : Int) (h0 : -1000 ≤ n) (h1 : n ≤ 1000) (hid : id.size ≤ 1000) (w : World) (hT : Tabs w) :
    Calls Tryd.prog 18 #[.string id, .int .i64 n] w fun e w' => TwinPost (lawR id n) w e w' := by
  by_cases hn : n < 0
  · have hnb : decide (n < 0) = true := by simp [hn]
    obtain ⟨W2, hW2⟩ : ∃ W2, W2 = ((w.alloc (.cells #[.string ⟨#[]⟩, .slice none 0 0] 28)).alloc (.cells #[.int .u8 2, .string ⟨#[]⟩, .string ⟨#[]⟩, .int .i64 n, .int .i64 0] 60)).alloc (.cells #[.int .u8 0, .string ⟨#[]⟩, .string ⟨#[]⟩, .int .i64 0, .int .i64 0] 60) := ⟨_, rfl⟩
    have hz : W2.heap.size = w.heap.size + 1 + 1 + 1 := by rw [hW2]; simp
    have hb : Below w.heap.size w W2 := by rw [hW2]; exact (((Below.refl _ _).alloc (Nat.le_refl _) _).alloc (by simp) _).alloc (by simp; omega) _
    have hr : Rd W2 W2.heap.size (some ⟨w.heap.size + 1 + 1, 0, none⟩) (cv (numL n)) := by
      have := rd_new ((w.alloc (.cells #[.string ⟨#[]⟩, .slice none 0 0] 28)).alloc (.cells #[.int .u8 2, .string ⟨#[]⟩, .string ⟨#[]⟩, .int .i64 n, .int .i64 0] 60)) #[.int .u8 0, .string ⟨#[]⟩, .string ⟨#[]⟩, .int .i64 0, .int .i64 0] 60 (cv (numL n)) (by simp [numL, hn, cv])
      rw [← hW2] at this
      simp only [World.size_alloc] at this
      exact this.mono (by omega)
    have cm := mem_call id n h0 h1 hid _ _ W2 hz hr (hT.below hb)
    have qb : Below W2.heap.size W2 (MemW W2 id (w.heap.size + 1 + 1 + 1) (w.heap.size + 1 + 1)) := (((Below.refl _ _).alloc (Nat.le_refl _) _).alloc (by simp) _).alloc (by simp; omega) _
    have kb : ∀ W, Below W2.heap.size W2 W → W.cell? ⟨w.heap.size, 0, none⟩ = some (.string ⟨#[]⟩) ∧ W.cell? ⟨w.heap.size, 1, none⟩ = some (.slice none 0 0) ∧ W.frozen? ⟨w.heap.size, 0, none⟩ = false ∧ W.frozen? ⟨w.heap.size, 1, none⟩ = false := fun W q => by
      have b0 : Below (w.alloc (.cells #[.string ⟨#[]⟩, .slice none 0 0] 28)).heap.size (w.alloc (.cells #[.string ⟨#[]⟩, .slice none 0 0] 28)) W := by
        have b1 : Below (w.alloc (.cells #[.string ⟨#[]⟩, .slice none 0 0] 28)).heap.size (w.alloc (.cells #[.string ⟨#[]⟩, .slice none 0 0] 28)) W2 := by rw [hW2]; exact ((Below.refl _ _).alloc (Nat.le_refl _) _).alloc (by simp) _
        exact b1.trans (q.mono b1.size)
      exact ⟨box_keep b0 0 (by simp), box_keep b0 1 (by simp), (b0.frozen (p := ⟨w.heap.size, 0, none⟩) (by simp)).trans (frozen_new _ _ _ _), (b0.frozen (p := ⟨w.heap.size, 1, none⟩) (by simp)).trans (frozen_new _ _ _ _)⟩
    have kq : ∀ W, Below (MemW W2 id (w.heap.size + 1 + 1 + 1) (w.heap.size + 1 + 1)).heap.size (MemW W2 id (w.heap.size + 1 + 1 + 1) (w.heap.size + 1 + 1)) W → Below W2.heap.size W2 W := fun W q => qb.trans (q.mono qb.size)
    have kw : ∀ (W : World) (base : Nat) (v : Value), W.ownsRow base 60 5 v (lawR id n).data.length (cv (lawR id n).data) → base = (MemW W2 id (w.heap.size + 1 + 1 + 1) (w.heap.size + 1 + 1)).heap.size → W.ownsRow (w.heap.size + 1) 60 5 v (lawR id n).data.length (cv (lawR id n).data) := fun W base v h e => own_base h (by have := qb.size; omega)
    have KB := Lib.hid kb
    have KQ := Lib.hid kq
    have KW := Lib.hid kw
    have HB := Lib.hid hb
    unfold PutPost at cm
    unfold TwinPost
    show Calls _ _ _ _ fun e w' => ∃ A c, e = .returned (.agg #[.string id, .slice A (lawR id n).data.length c]) ∧ _ ∧ _
    obtain ⟨D, hD⟩ : ∃ D, (lawR id n).data = D := ⟨_, rfl⟩
    obtain ⟨V, hV⟩ : ∃ V, putE 7 (nmL recN) (recL id n) = V := ⟨_, rfl⟩
    rw [hD, hV] at cm
    rw [hD] at KW ⊢
    clear hr hb hz kb kq qb kw hD hV
    unfold MemW at *
    subst hW2
    go_enter Tryd.func18, Tryd.ntmps18
    go_wp2_with fail
    refine cm.mono ?_
    rintro e w5 ⟨v, rfl, ho, hb5⟩
    clear cm
    have q5 := KQ.out w5 hb5
    obtain ⟨j0, j1, l0, l1⟩ := KB.out w5 q5
    have ho5 := KW.out _ _ _ ho rfl
    obtain ⟨Av, cw, rfl, _, _⟩ := own_slice ho5
    have d5 := HB.out.trans (q5.mono HB.out.size)
    have HO := Lib.hid (And.intro ho5 (And.intro j0 j1))
    clear ho ho5
    go_wp2
    obtain ⟨ho5, j0, j1⟩ := HO.out
    have q0 : ∀ u0 u1, ((w5.setCell ⟨w.heap.size, 0, none⟩ u0).setCell ⟨w.heap.size, 1, none⟩ u1).cell? ⟨w.heap.size, 0, none⟩ = some u0 := fun u0 u1 => by
      rw [World.cell?_setCell_other _ _ _ _ (by simp)]
      exact World.cell?_setCell_same _ _ _ j0
    have q1 : ∀ u0 u1, ((w5.setCell ⟨w.heap.size, 0, none⟩ u0).setCell ⟨w.heap.size, 1, none⟩ u1).cell? ⟨w.heap.size, 1, none⟩ = some u1 := fun u0 u1 =>
      World.cell?_setCell_same _ _ _ ((World.cell?_setCell_other _ _ _ _ (by simp)).trans j1)
    refine bodyPost_ret (v := .agg #[.string id, .slice Av D.length cw]) ?_ rfl ⟨Av, cw, rfl, ?_, ?_⟩
    · rw [results_cell1 rfl]
      exact load_rec1 _ _ _ _ (q0 _ _) (q1 _ _) ⟨_, rfl⟩ ⟨_, _, _, rfl⟩
    · have g1 := ho5.kept (grown_set w5 w.heap.size 0 (.string id)) (own_ne_base ho5 (by omega))
      exact own_base (g1.kept (grown_set _ w.heap.size 1 (.slice Av D.length cw)) (own_ne_base g1 (by omega))) (by omega)
    · exact (d5.setCell (by show w.heap.size ≤ w.heap.size; omega) _).setCell (by show w.heap.size ≤ w.heap.size; omega) _
  · have hnb : decide (n < 0) = false := by simp [hn]
    obtain ⟨W2, hW2⟩ : ∃ W2, W2 = (w.alloc (.cells #[.string ⟨#[]⟩, .slice none 0 0] 28)).alloc (.cells #[.int .u8 2, .string ⟨#[]⟩, .string ⟨#[]⟩, .int .i64 n, .int .i64 0] 60) := ⟨_, rfl⟩
    have hz : W2.heap.size = w.heap.size + 1 + 1 := by rw [hW2]; simp
    have hb : Below w.heap.size w W2 := by rw [hW2]; exact ((Below.refl _ _).alloc (Nat.le_refl _) _).alloc (by simp) _
    have hr : Rd W2 W2.heap.size (some ⟨w.heap.size + 1, 0, none⟩) (cv (numL n)) := by
      have := rd_new (w.alloc (.cells #[.string ⟨#[]⟩, .slice none 0 0] 28)) #[.int .u8 2, .string ⟨#[]⟩, .string ⟨#[]⟩, .int .i64 n, .int .i64 0] 60 (cv (numL n)) (by simp [numL, hn, cv])
      rw [← hW2] at this
      simp only [World.size_alloc] at this
      exact this.mono (by omega)
    have cm := mem_call id n h0 h1 hid _ _ W2 hz hr (hT.below hb)
    have qb : Below W2.heap.size W2 (MemW W2 id (w.heap.size + 1 + 1) (w.heap.size + 1)) := (((Below.refl _ _).alloc (Nat.le_refl _) _).alloc (by simp) _).alloc (by simp; omega) _
    have kb : ∀ W, Below W2.heap.size W2 W → W.cell? ⟨w.heap.size, 0, none⟩ = some (.string ⟨#[]⟩) ∧ W.cell? ⟨w.heap.size, 1, none⟩ = some (.slice none 0 0) ∧ W.frozen? ⟨w.heap.size, 0, none⟩ = false ∧ W.frozen? ⟨w.heap.size, 1, none⟩ = false := fun W q => by
      have b0 : Below (w.alloc (.cells #[.string ⟨#[]⟩, .slice none 0 0] 28)).heap.size (w.alloc (.cells #[.string ⟨#[]⟩, .slice none 0 0] 28)) W := by
        have b1 : Below (w.alloc (.cells #[.string ⟨#[]⟩, .slice none 0 0] 28)).heap.size (w.alloc (.cells #[.string ⟨#[]⟩, .slice none 0 0] 28)) W2 := by rw [hW2]; exact (Below.refl _ _).alloc (Nat.le_refl _) _
        exact b1.trans (q.mono b1.size)
      exact ⟨box_keep b0 0 (by simp), box_keep b0 1 (by simp), (b0.frozen (p := ⟨w.heap.size, 0, none⟩) (by simp)).trans (frozen_new _ _ _ _), (b0.frozen (p := ⟨w.heap.size, 1, none⟩) (by simp)).trans (frozen_new _ _ _ _)⟩
    have kq : ∀ W, Below (MemW W2 id (w.heap.size + 1 + 1) (w.heap.size + 1)).heap.size (MemW W2 id (w.heap.size + 1 + 1) (w.heap.size + 1)) W → Below W2.heap.size W2 W := fun W q => qb.trans (q.mono qb.size)
    have kw : ∀ (W : World) (base : Nat) (v : Value), W.ownsRow base 60 5 v (lawR id n).data.length (cv (lawR id n).data) → base = (MemW W2 id (w.heap.size + 1 + 1) (w.heap.size + 1)).heap.size → W.ownsRow (w.heap.size + 1) 60 5 v (lawR id n).data.length (cv (lawR id n).data) := fun W base v h e => own_base h (by have := qb.size; omega)
    have KB := Lib.hid kb
    have KQ := Lib.hid kq
    have KW := Lib.hid kw
    have HB := Lib.hid hb
    unfold PutPost at cm
    unfold TwinPost
    show Calls _ _ _ _ fun e w' => ∃ A c, e = .returned (.agg #[.string id, .slice A (lawR id n).data.length c]) ∧ _ ∧ _
    obtain ⟨D, hD⟩ : ∃ D, (lawR id n).data = D := ⟨_, rfl⟩
    obtain ⟨V, hV⟩ : ∃ V, putE 7 (nmL recN) (recL id n) = V := ⟨_, rfl⟩
    rw [hD, hV] at cm
    rw [hD] at KW ⊢
    clear hr hb hz kb kq qb kw hD hV
    unfold MemW at *
    subst hW2
    go_enter Tryd.func18, Tryd.ntmps18
    go_wp2_with fail
    refine cm.mono ?_
    rintro e w5 ⟨v, rfl, ho, hb5⟩
    clear cm
    have q5 := KQ.out w5 hb5
    obtain ⟨j0, j1, l0, l1⟩ := KB.out w5 q5
    have ho5 := KW.out _ _ _ ho rfl
    obtain ⟨Av, cw, rfl, _, _⟩ := own_slice ho5
    have d5 := HB.out.trans (q5.mono HB.out.size)
    have HO := Lib.hid (And.intro ho5 (And.intro j0 j1))
    clear ho ho5
    go_wp2
    obtain ⟨ho5, j0, j1⟩ := HO.out
    have q0 : ∀ u0 u1, ((w5.setCell ⟨w.heap.size, 0, none⟩ u0).setCell ⟨w.heap.size, 1, none⟩ u1).cell? ⟨w.heap.size, 0, none⟩ = some u0 := fun u0 u1 => by
      rw [World.cell?_setCell_other _ _ _ _ (by simp)]
      exact World.cell?_setCell_same _ _ _ j0
    have q1 : ∀ u0 u1, ((w5.setCell ⟨w.heap.size, 0, none⟩ u0).setCell ⟨w.heap.size, 1, none⟩ u1).cell? ⟨w.heap.size, 1, none⟩ = some u1 := fun u0 u1 =>
      World.cell?_setCell_same _ _ _ ((World.cell?_setCell_other _ _ _ _ (by simp)).trans j1)
    refine bodyPost_ret (v := .agg #[.string id, .slice Av D.length cw]) ?_ rfl ⟨Av, cw, rfl, ?_, ?_⟩
    · rw [results_cell1 rfl]
      exact load_rec1 _ _ _ _ (q0 _ _) (q1 _ _) ⟨_, rfl⟩ ⟨_, _, _, rfl⟩
    · have g1 := ho5.kept (grown_set w5 w.heap.size 0 (.string id)) (own_ne_base ho5 (by omega))
      exact own_base (g1.kept (grown_set _ w.heap.size 1 (.slice Av D.length cw)) (own_ne_base g1 (by omega))) (by omega)
    · exact (d5.setCell (by show w.heap.size ≤ w.heap.size; omega) _).setCell (by show w.heap.size ≤ w.heap.size; omega) _
end
section
open Go.RowKit
def rA (n : Int) : RecC := lawR ⟨#[97]⟩ n
def rB (n : Int) : RecC := lawR ⟨#[98]⟩ n
def rC (n : Int) : RecC := lawR ⟨#[99]⟩ n
def smallT : TabC := ⟨⟨#[84]⟩, 2, [⟨#[110]⟩], [rA 1]⟩
def twoT : TabC := ⟨⟨#[84]⟩, 2, [⟨#[110]⟩], [rA 1, rB 2]⟩
theorem put_b2 : putT smallT (rB 2) = (twoT, 0) := by kernel_rfl
theorem put_c3 : putT twoT (rC 3) = (zeroT, 272) := by kernel_rfl
theorem get_b2 : getT twoT ⟨#[98]⟩ = some (rB 2) := by kernel_rfl
theorem put_a5 : putT smallT (rA 5) = (zeroT, 271) := by kernel_rfl
theorem put_b1 : putT smallT (rB 1) = (zeroT, 271) := by kernel_rfl
def small3 : TabC := ⟨⟨#[84]⟩, 3, [⟨#[110]⟩], [rA 1]⟩
def small4 : TabC := ⟨⟨#[84]⟩, 3, [⟨#[110]⟩], [rA 1, rB (-1)]⟩
def small5 : TabC := ⟨⟨#[84]⟩, 3, [⟨#[110]⟩], [rA 1, rB (-1), rC (-1)]⟩
theorem put_b0 : putT small3 (rB (-1)) = (small4, 0) := by kernel_rfl
theorem put_c0 : putT small4 (rC (-1)) = (small5, 0) := by kernel_rfl
theorem set_a3 : setT smallT (rA 3) = (⟨⟨#[84]⟩, 2, [⟨#[110]⟩], [rA 3]⟩, 0) := by kernel_rfl
theorem set_b3 : setT smallT (rB 3) = (zeroT, 270) := by kernel_rfl
theorem drop_b : dropT smallT ⟨#[98]⟩ = (zeroT, 270) := by kernel_rfl
theorem put_z : putT smallT ⟨⟨#[122]⟩, (lawR ⟨#[121]⟩ 1).data⟩ = (zeroT, 8) := by kernel_rfl
theorem data_eq : (rA 1).data = [⟨7, ⟨#[]⟩, ⟨#[]⟩, 0, 2⟩, ⟨3, ⟨#[105, 100]⟩, ⟨#[97]⟩, 0, 0⟩, ⟨2, ⟨#[110]⟩, ⟨#[]⟩, 1, 0⟩] := by kernel_rfl
end
section
open Go.RowKit
def smallB (c : Cel) : Bool := decide (c.kind ≤ 255) && decide (c.name.size ≤ 300) && decide (c.text.size ≤ 3000) && decide (-1000000000 ≤ c.num) && decide (c.num ≤ 1000000000) && decide (-1000000000 ≤ c.many) && decide (c.many ≤ 1000000000)
theorem wf_of_small {xs : List Cel} (h : xs.all smallB = true) : ∀ c ∈ xs, CelW maxLen c := by
  intro c hc
  have := List.all_eq_true.1 h c hc
  unfold smallB at this
  simp only [Bool.and_eq_true, decide_eq_true_eq] at this
  unfold maxLen
  exact ⟨this.1.1.1.1.1.1, by omega, by omega, by omega, by omega, by omega, by omega⟩
def smallR (r : RecC) : Bool := decide (r.id.size ≤ 300) && decide (r.data.length ≤ 1000) && r.data.all smallB
theorem recW_small {r : RecC} (h : smallR r = true) : RecW r := by
  unfold smallR at h
  simp only [Bool.and_eq_true, decide_eq_true_eq] at h
  exact ⟨by unfold maxLen; omega, by omega, wf_of_small h.2⟩
theorem tabW_small {t : TabC} (h : (t.rows.all smallR && decide (t.us.length ≤ 900) && decide (t.rows.length ≤ 900) && t.us.all (fun s => decide (s.size ≤ 300))) = true) : TabW t := by
  simp only [Bool.and_eq_true, decide_eq_true_eq, List.all_eq_true] at h
  obtain ⟨⟨⟨h1, h2⟩, h3⟩, h4⟩ := h
  exact ⟨fun r hr => recW_small (h1 r hr), h2, h3, fun s hs => by have := h4 s hs; unfold maxLen; omega⟩
theorem small_W : TabW smallT := tabW_small (by kernel_rfl)
theorem two_W : TabW twoT := tabW_small (by kernel_rfl)
theorem rec_len : (rA 1).data.length = 3 := by kernel_rfl
set_option maxRecDepth 100000 in
set_option maxHeartbeats 8000000 in
theorem small_any (w : World) (hT : Tabs w) : Calls Tryd.prog 17 #[] w fun e w' => TwinT smallT w e w' := by
  obtain ⟨W1, hW1⟩ : ∃ W1, W1 = (w.alloc (.cells #[.string ⟨#[]⟩, .int .i64 0, .slice none 0 0, .slice none 0 0] 25)).alloc (.cells #[.string ⟨#[110]⟩] 9) := ⟨_, rfl⟩
  have hz : W1.heap.size = w.heap.size + 1 + 1 := by rw [hW1]; simp
  have hb : Below w.heap.size w W1 := by rw [hW1]; exact ((Below.refl _ _).alloc (Nat.le_refl _) _).alloc (by simp) _
  have kF : ∀ W, Below W1.heap.size W1 W → Four W w.heap.size (.string ⟨#[]⟩) (.int .i64 0) (.slice none 0 0) (.slice none 0 0) := fun W q => by
    refine Four.below (W := W1) ?_ q (by omega)
    rw [hW1]
    exact (Four.new w _ _ _ _ _).grown (World.grownBy_alloc _ _ none) (by simp)
  have kU : ∀ W, Below W1.heap.size W1 W → W.heap[w.heap.size + 1]? = some (.cells #[.string ⟨#[110]⟩] 9 (0, 0)) := fun W q => by
    rw [q.block _ (by omega), hW1]
    have := heap_alloc_new (w.alloc (.cells #[.string ⟨#[]⟩, .int .i64 0, .slice none 0 0, .slice none 0 0] 25)) (.cells #[.string ⟨#[110]⟩] 9)
    simpa using this
  have cr := record_any ⟨#[97]⟩ 1 (by omega) (by omega) (by decide) W1 (hT.below hb)
  unfold TwinPost at cr
  have hl := rec_len
  change (lawR ⟨#[97]⟩ 1).data.length = 3 at hl
  change Calls _ _ _ _ fun e w' => ∃ A c, e = .returned (.agg #[.string ⟨#[97]⟩, .slice A (lawR ⟨#[97]⟩ 1).data.length c]) ∧ _ ∧ _ at cr
  unfold TwinT
  show Calls _ _ _ _ fun e w' => ∃ Au cu g, e = .returned (.agg #[.string ⟨#[84]⟩, .int .i64 2, .slice Au 1 cu, .slice (some ⟨g, 0, none⟩) 1 1]) ∧ _ ∧ _
  have KF := Lib.hid kF
  have KU := Lib.hid kU
  have HB := Lib.hid hb
  have HZ := Lib.hid hz
  rw [hl] at cr
  clear kF kU hb hT hz
  subst hW1
  go_enter Tryd.func17, Tryd.ntmps17
  go_wp2_with fail
  refine cr.mono ?_
  rintro e w5 ⟨A, c, rfl, ho, hb5⟩
  clear cr
  have hb6 := fun (o : Obj) => hb5.alloc hb5.size o
  have F := fun (o : Obj) => KF.out (w5.alloc o) (hb6 o)
  have a0 := fun o => (F o).c0
  have a1 := fun o => (F o).c1
  have a2 := fun o => (F o).c2
  have a3 := fun o => (F o).c3
  have af0 := fun o => (F o).f 0
  have af1 := fun o => (F o).f 1
  have af2 := fun o => (F o).f 2
  have af3 := fun o => (F o).f 3
  have HO := Lib.hid (And.intro ho F)
  have B6 := Lib.hid hb6
  have hsz5 := hb5.size
  clear ho F hb6
  go_wp2
  obtain ⟨ho, F⟩ := HO.out
  have ho' : w5.ownsRow (w.heap.size + 1) 60 5 (.slice A (rA 1).data.length c) (rA 1).data.length (cv (rA 1).data) := by
    rw [rec_len]
    exact own_base ho (by simp)
  have hu6 := KU.out (w5.alloc (.cells #[.string ⟨#[97]⟩, .slice A 3 c] 28)) (B6.out _)
  have uS := own_of_cells (w := w5.alloc (.cells #[.string ⟨#[97]⟩, .slice A 3 c] 28)) (base := w.heap.size + 1) (n := 1) (c := 1) (sz := 1) (xs := [.string ⟨#[110]⟩]) (Nat.le_refl _) hu6 rfl (Nat.le_refl _) (by unfold maxLen; omega)
  have kS : Kept (w5.alloc (.cells #[.string ⟨#[97]⟩, .slice A 3 c] 28)) (w.heap.size + 1) [.string ⟨#[97]⟩, .slice A 3 c] [rA 1] 1 := by
    intro j hj _
    obtain rfl : j = 0 := by simpa using hj
    refine ⟨rfl, A, c, ?_, World.ownsRow.alloc ho' _⟩
    show some (Value.slice A 3 c) = some (Value.slice A (rA 1).data.length c)
    rw [rec_len]
  have nS : NewTab (w5.alloc (.cells #[.string ⟨#[97]⟩, .slice A 3 c] 28)) (w.heap.size + 1) smallT (some ⟨w.heap.size + 1, 0, none⟩) 1 w5.heap.size 1 :=
    ⟨uS, ⟨[.string ⟨#[97]⟩, .slice A 3 c], by simp only [heap_alloc_new], rfl, kS⟩, by have := HZ.out; omega, Nat.le_refl _⟩
  have nF := nS.grown (grown_four _ w.heap.size (.string ⟨#[84]⟩) (.int .i64 2) (.slice (some ⟨w.heap.size + 1, 0, none⟩) 1 1) (.slice (some ⟨w5.heap.size, 0, none⟩) 1 1)) (by omega)
  have rF := ((((F (.cells #[.string ⟨#[97]⟩, .slice A 3 c] 28)).set0 (.string ⟨#[84]⟩)).set1 (.int .i64 2)).set2 (.slice (some ⟨w.heap.size + 1, 0, none⟩) 1 1)).set3 (.slice (some ⟨w5.heap.size, 0, none⟩) 1 1)
  refine bodyPost_ret (v := .agg #[.string ⟨#[84]⟩, .int .i64 2, .slice (some ⟨w.heap.size + 1, 0, none⟩) 1 1, .slice (some ⟨w5.heap.size, 0, none⟩) 1 1]) ?_ rfl ⟨some ⟨w.heap.size + 1, 0, none⟩, 1, w5.heap.size, rfl, ?_, ?_⟩
  · rw [results_cell1 rfl]
    exact load_tab1 _ _ rF
  · obtain ⟨q1, ⟨L', q2, q3, q4⟩, q5, q6⟩ := nF
    exact ⟨own_base q1 (by omega), ⟨L', q2, q3, q4.base (by omega)⟩, by omega, q6⟩
  · exact below_four ((HB.out.trans (hb5.mono HB.out.size)).alloc (Nat.le_trans HB.out.size hb5.size) _) (by omega) _ _ _ _
end
end Go.Proofs.YtcgioepbooafcaaDoor
