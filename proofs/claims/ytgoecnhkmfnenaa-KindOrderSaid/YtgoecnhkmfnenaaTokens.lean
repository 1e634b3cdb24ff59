/- lit.TypeTokens: where it finds no error, each wrapper is one of the two. Conditions: few wrappers. -/
import Derived.Test.YtgoecnhkmfnenaaPutAdd
import Derived.Test.YtgoecnhkmfnenaaBack
namespace Go.Proofs.Ytgoecnhkmfnenaa
open Go.RowKit Go.Shelf
attribute [local go_sem] Oper.semAt_some
/-- what lies in the variables of TypeTokens -/
structure TokI (w : World) (nm : ByteArray) (A : Option Addr) (n c : Nat) (wr : World) : Prop where
  below : Below w.heap.size w wr
  nm : wr.cell? ⟨w.heap.size, 0, none⟩ = some (.string nm)
  ws : wr.cell? ⟨w.heap.size, 1, none⟩ = some (.slice A n c)
  p : wr.cell? ⟨w.heap.size + 2, 0, none⟩ = some (.pointer (some ⟨w.heap.size + 1, 0, none⟩))
theorem PutIs.kept {w w' : World} {g n : Nat} {row : Option Nat} (h : PutIs w g n) (hg : w.grownBy w' row) (hr : ∀ r, row = some r → ∃ o : Obj, w.heap[r]? = some o ∧ o.isCells = false) : PutIs w' g n := by
  obtain ⟨A, c, olds, p1, p2, p3, p4, p5, p6, p7⟩ := h
  exact ⟨A, c, olds, cell_kept p1 hg hr, (frozen_kept p1 hg hr).trans p2, p3, p4, p5, p6, fun b hb j u hj => cell_kept (p7 b hb j u hj) hg hr⟩
theorem PutIs.alloc {w : World} {g n : Nat} (h : PutIs w g n) (o : Obj) : PutIs (w.alloc o) g n := h.kept (World.grownBy_alloc w o none) (fun r e => by cases e)
theorem TokI.keep {w : World} {nm : ByteArray} {A : Option Addr} {n c : Nat} {W W' : World} (h : TokI w nm A n c W) (hb : Below w.heap.size W W') (hk : KeepC (w.heap.size + 1) W W') : TokI w nm A n c W' :=
  ⟨h.below.trans hb, hk _ _ (by simp) h.nm, hk _ _ (by simp) h.ws, hk _ _ (by simp) h.p⟩
theorem TokI.alloc {w : World} {nm : ByteArray} {A : Option Addr} {n c : Nat} {W : World} (h : TokI w nm A n c W) (o : Obj) : TokI w nm A n c (W.alloc o) :=
  h.keep ((Below.refl _ _).alloc h.below.size _) fun _ _ _ hc => cell_kept hc (World.grownBy_alloc W o none) (fun r e => by cases e)
theorem keepC_grown {g : Nat} {W W' : World} (h : W.grownBy W' (some g)) : KeepC g W W' := fun _ _ hne hc => h.cell hc (fun e => hne (by cases e; rfl))
theorem TokI.add {w : World} {nm : ByteArray} {A : Option Addr} {n c : Nat} {W W' : World} (h : TokI w nm A n c W) (hg : W.grownBy W' (some (w.heap.size + 1))) : TokI w nm A n c W' :=
  h.keep ((Below.refl _ _).grown hg h.below.size (fun k e => by cases e; omega)) (keepC_grown hg)
theorem tokI_start (w : World) (nm : ByteArray) (A : Option Addr) (n c : Nat) (t1 t2 t3 : TypeId) (W : World)
    (hW : W = ((w.alloc (.cells #[.string nm, .slice A n c] t1)).alloc (.cells #[.slice none 0 0] t2)).alloc (.cells #[.pointer (some ⟨w.heap.size + 1, 0, none⟩)] t3)) :
    PutIs W (w.heap.size + 1) 0 ∧ TokI w nm A n c W := by
  obtain ⟨W1, e1⟩ : ∃ W1, w.alloc (.cells #[.string nm, .slice A n c] t1) = W1 := ⟨_, rfl⟩
  obtain ⟨W2, e2⟩ : ∃ W2, W1.alloc (.cells #[.slice none 0 0] t2) = W2 := ⟨_, rfl⟩
  rw [e1, e2] at hW
  have s1 : W1.heap.size = w.heap.size + 1 := by rw [← e1]; simp
  have s2 : W2.heap.size = w.heap.size + 2 := by rw [← e2, World.size_alloc, s1]
  have g1 : W1.heap[w.heap.size]? = some (.cells #[.string nm, .slice A n c] t1 (0, 0)) := by rw [← e1]; exact heap_alloc_new _ _
  have g2 : W2.heap[w.heap.size + 1]? = some (.cells #[.slice none 0 0] t2 (0, 0)) := by rw [← e2, ← s1]; exact heap_alloc_new _ _
  have g3 : W2.heap[w.heap.size]? = some (.cells #[.string nm, .slice A n c] t1 (0, 0)) := by rw [← e2]; exact (heap_alloc_old _ _ (by omega)).trans g1
  have k1 : W.heap[w.heap.size]? = some (.cells #[.string nm, .slice A n c] t1 (0, 0)) := by rw [hW]; exact (heap_alloc_old _ _ (by omega)).trans g3
  have k2 : W.heap[w.heap.size + 1]? = some (.cells #[.slice none 0 0] t2 (0, 0)) := by rw [hW]; exact (heap_alloc_old _ _ (by omega)).trans g2
  have k3 : W.heap[w.heap.size + 2]? = some (.cells #[.pointer (some ⟨w.heap.size + 1, 0, none⟩)] t3 (0, 0)) := by rw [hW, ← s2]; exact heap_alloc_new _ _
  refine ⟨⟨none, 0, [], by simp [World.cell?, k2], by simp [World.frozen?, k2], Nat.le_refl _, by unfold maxLen; omega, rfl, fun _ => rfl, fun b hb => by cases hb⟩, ⟨?_, by simp [World.cell?, k1], by simp [World.cell?, k1], by simp [World.cell?, k3]⟩⟩
  rw [hW, ← e2, ← e1]
  exact (((Below.refl _ _).alloc (Nat.le_refl _) _).alloc (by simp) _).alloc (by simp; omega) _
theorem TokI.drew {w : World} {nm : ByteArray} {A : Option Addr} {n c : Nat} {W : World} (h : TokI w nm A n c W) : TokI w nm A n c W.drew := ⟨h.below.drew, h.nm, h.ws, h.p⟩
theorem TokI.kept {w : World} {nm : ByteArray} {A : Option Addr} {n c : Nat} {W W' : World} {row : Option Nat} (h : TokI w nm A n c W) (hg : W.grownBy W' row) (hr : ∀ r, row = some r → w.heap.size ≤ r ∧ ∃ o : Obj, W.heap[r]? = some o ∧ o.isCells = false) : TokI w nm A n c W' :=
  h.keep ((Below.refl _ _).grown hg h.below.size (fun k e => (hr k e).1)) fun _ _ _ hc => cell_kept hc hg (fun r e => (hr r e).2)
theorem body_end {W W' w4 : World} {g n : Nat} {o : Obj} (hW : W' = W.alloc o ∨ W' = (W.alloc o).drew) (hput : PutIs W g n) (hg : W'.grownBy w4 (some g)) : KeepsOthers W w4 ∧ KeepC g W w4 := by
  have h1 : ∀ (k : Nat) (o' : Obj), W.heap[k]? = some o' → W'.heap[k]? = some o' := by
    intro k o' h
    have hk : k < W.heap.size := (Array.getElem?_eq_some_iff.1 h).1
    rcases hW with rfl | rfl
    · exact (heap_alloc_old _ _ hk).trans h
    · exact (heap_alloc_old W o hk).trans h
  have h2 : W.heap.size ≤ W'.heap.size := by
    rcases hW with rfl | rfl <;> simp
  refine ⟨⟨Nat.le_trans h2 hg.size, fun k o' h ho => ?_⟩, fun a v hne hc => ?_⟩
  · have hk : k < W'.heap.size := (Array.getElem?_eq_some_iff.1 (h1 k o' h)).1
    have hkg : k ≠ g := by
      rintro rfl
      obtain ⟨A, c, olds, p1, _⟩ := hput
      obtain ⟨o2, h3, h4⟩ := cells_of_cell p1
      simp only at h3
      rw [h] at h3
      cases h3
      rw [ho] at h4
      cases h4
    exact (hg.block k hk (fun e => hkg (by cases e; rfl))).trans (h1 k o' h)
  · obtain ⟨o2, h3, h4⟩ := cells_of_cell hc
    have h5 : W'.cell? a = some v := (World.cell?_of_block ((h1 _ _ h3).trans h3.symm)).trans hc
    exact hg.cell h5 (fun e => hne (by cases e; rfl))
def OkPost (ws : List UInt8) (w : World) (e : Ending) (w' : World) : Prop :=
  (∃ v k, e = .returned (.tuple #[v, .int .i64 k]) ∧ (k = 0 → ∀ x ∈ ws, x = 1 ∨ x = 2)) ∧ Below w.heap.size w w'
set_option maxRecDepth 100000 in
set_option maxHeartbeats 4000000 in
theorem tokens_any (nm : ByteArray) (A : Option Addr) (c : Nat) (ws : List UInt8) (w : World) {B : Nat} (hx : Rd w B A (bv ws)) (hB : B ≤ w.heap.size) (hc : ws.length ≤ c) (hm : c ≤ maxLen) (hs : nm.size ≤ maxLen) :
    Calls Try.prog 14 #[.agg #[.string nm, .slice A ws.length c]] w (OkPost ws w) := by
  have hn := fun W => name_any nm W hs
  refine (callsIn_wide (n := 3)).1 ?_
  refine callsIn_of_wp_marks Try.func14 rfl trivial ?_ rfl
  simp only [Try.ntmps14, List.size_toArray, List.length_cons, List.length_nil, Nat.reduceAdd, Nat.reduceSub, Array.replicate_succ, Array.replicate_zero, List.push_toArray, List.append_toArray, List.nil_append, List.cons_append]
  have hB0 : Below w.heap.size w (w.alloc (.cells #[.string nm, .slice A ws.length c] 24)) := (Below.refl _ _).alloc (Nat.le_refl _) _
  gi_wp2_with fail
  refine ⟨trivial, ?_⟩
  refine (callsIn_wide.2 (hn _)).mono ?_
  rintro e w1 ⟨⟨b, rfl⟩, rfl⟩
  cases b with
  | false =>
    gi_wp2
    exact ⟨_, results_tmp2 rfl _ _ _, ⟨_, _, rfl, by intro h; cases h⟩, hB0⟩
  | true =>
    by_cases h8 : (8 : Int) < ws.length
    · gi_wp2
      exact ⟨_, results_tmp2 rfl _ _ _, ⟨_, _, rfl, by intro h; cases h⟩, hB0⟩
    · have hl8 : ws.length ≤ 8 := by omega
      gi_wp2
      gi_loopw [5, 25] (fun last i wr => ∃ k m L : Nat, i = .int .i64 k ∧ k ≤ ws.length ∧ m ≤ k ∧ last = .int .u8 L ∧ (∀ x ∈ ws.take k, x = 1 ∨ x = 2) ∧ PutIs wr (w.heap.size + 1) m ∧ TokI w nm A ws.length c wr) (fun _ i _ => ws.length - (intOf i).toNat)
      case atStart =>
        obtain ⟨q1, q2⟩ := tokI_start w nm A ws.length c 24 69 67 _ rfl
        exact ⟨0, 0, 2, rfl, Nat.zero_le _, Nat.le_refl _, rfl, by simp, q1, q2⟩
      case round =>
        obtain ⟨k, m, L, rfl, hk, hmk, rfl, hall, hput, hti⟩ := hrel
        have cp := hti.p
        have cn := hti.nm
        have cw := hti.ws
        have hbel := hti.below
        by_cases hlt : k < ws.length
        · obtain ⟨b, off, rfl, hb, hcell⟩ := (hx.thru hti.below hB).byte hlt
          have cx := hcell k hlt
          have htake : ws.take (k + 1) = ws.take k ++ [ws[k]] := List.take_succ_eq_append_getElem hlt
          have hltI : (k : Int) < ws.length := by omega
          clear hcell
          by_cases h1 : ws[k] = 1
          · rw [h1] at cx htake
            simp at cx
            have hall2 : ∀ x ∈ ws.take (k + 1), x = 1 ∨ x = 2 := by
              intro x hxm
              rw [htake, List.mem_append] at hxm
              rcases hxm with g | g
              · exact hall x g
              · simp at g; exact .inl g
            by_cases hL : L = 1
            · subst hL
              gi_wp2
              exact ⟨_, results_tmp2 rfl _ _ _, ⟨_, _, rfl, by intro h; cases h⟩, hbel⟩
            · have hL2 : ((L : Int) == 1) = false := by rw [beq_eq_false_iff_ne]; omega
              gi_wp2
              go_roundw
              case rel => exact ⟨k + 1, m, 1, by go_num, by omega, by omega, rfl, hall2, hput, hti⟩
              case measure => simp [intOf]; omega
          · by_cases h2 : ws[k] = 2
            · rw [h2] at cx htake
              simp at cx
              have hall2 : ∀ x ∈ ws.take (k + 1), x = 1 ∨ x = 2 := by
                intro x hxm
                rw [htake, List.mem_append] at hxm
                rcases hxm with g | g
                · exact hall x g
                · simp at g; exact .inr g
              have hadd := add_any (w.heap.size + 1) 4 wr.heap.size m ⟨#[91]⟩ (wr.alloc (.cells #[.string ⟨#[91]⟩] 9)) (hput.alloc _) (by omega) (by simp [World.cell?_alloc_new]) (by have := World.block_lt_of_cell? wr _ cp; simp at this; omega)
              gi_wp2_with fail
              refine ⟨trivial, ?_⟩
              refine (callsIn_wide.2 hadd).mono ?_
              rintro e w2 ⟨⟨v, rfl⟩, hput2, hg2⟩
              have hti2 := (hti.alloc _).add hg2
              clear hadd hg2 cp cn cw hbel
              gi_wp2
              go_roundw
              case rel => exact ⟨k + 1, m + 1, 2, by go_num, by omega, by omega, rfl, hall2, hput2, hti2⟩
              case measure => simp [intOf]; omega
            · have n1 : ((ws[k].toNat : Int) == 1) = false := by
                rw [beq_eq_false_iff_ne]; intro e; apply h1; apply UInt8.toNat_inj.1; show ws[k].toNat = 1; omega
              have n2 : ((ws[k].toNat : Int) == 2) = false := by
                rw [beq_eq_false_iff_ne]; intro e; apply h2; apply UInt8.toNat_inj.1; show ws[k].toNat = 2; omega
              have n3 : ((ws[k].toNat : Int) != 1) = true := by rw [bne, n1]; rfl
              have n4 : ((ws[k].toNat : Int) != 2) = true := by rw [bne, n2]; rfl
              clear htake
              gi_wp2
              exact ⟨_, results_tmp2 rfl _ _ _, ⟨_, _, rfl, by intro h; cases h⟩, hbel⟩
        · obtain rfl : k = ws.length := by omega
          have hadd := add_any (w.heap.size + 1) 1 wr.heap.size m nm (wr.alloc (.cells #[.string nm] 9)) (hput.alloc _) (by omega) (by simp [World.cell?_alloc_new]) (by have := World.block_lt_of_cell? wr _ cp; simp at this; omega)
          gi_wp2_with fail
          refine ⟨trivial, ?_⟩
          refine (callsIn_wide.2 hadd).mono ?_
          rintro e w2 ⟨⟨v, rfl⟩, hput2, hg2⟩
          have hti2 := (hti.alloc _).add hg2
          clear hadd hg2 cp cn cw hbel hput hti
          have cp := hti2.p
          have cn := hti2.nm
          have cw := hti2.ws
          gi_wp2_with fail
          refine ⟨trivial, ?_⟩
          refine (callsIn_wide.2 (backward_any _ _ _ _)).mono ?_
          rintro e w3 ⟨rfl, rfl⟩
          gi_wp2
          have hs2 := hti2.below.size
          have hcB : (w2.alloc (.cells #[.slice A ws.length c] 22)).cell? ⟨w2.heap.size, 0, none⟩ = some (.slice A ws.length c) := by simp [World.cell?_alloc_new]
          have hti3 := hti2.alloc (.cells #[.slice A ws.length c] 22)
          have hput3 := hput2.alloc (.cells #[.slice A ws.length c] 22)
          have hx3 := hx.thru hti3.below hB
          have hws : ∀ x ∈ ws, x = 1 ∨ x = 2 := by
            rw [List.take_length] at hall
            exact hall
          have hne : w2.heap.size ≠ w.heap.size + 1 := by
            have := World.block_lt_of_cell? w2 _ cp
            simp at this
            omega
          refine wpIn_rangeFunc_ownF rfl (by omega) (gf := 40) (lb := #[.pointer (some ⟨w2.heap.size, 0, none⟩)]) rfl trivial (enters_of Try.func40 (by kernel_rfl) rfl)
            (back_stops Fence.wide _ trivial rfl (by omega) w2.heap.size (w.heap.size + 1) B A c ws hws hl8 hc _ hcB hne hx3 (by omega)) keepC_t keepC_b (Below.refl _ _) (fun _ => rfl)
            (fun pre W => PutIs W (w.heap.size + 1) (m + 1 + pre.length) ∧ TokI w nm A ws.length c W) (fun _ _ _ => False)
            (fun s W W' row hs hg hr => ⟨hs.1.kept hg (fun r e => (hr r e).2), hs.2.kept hg (fun r e => ⟨by have := (hr r e).1; simp at this; omega, (hr r e).2⟩)⟩)
            (fun _ _ _ _ _ hs _ _ => hs)
            ⟨hput3, hti3⟩
            (fun x => { tmps := #[.agg #[.string nm, .slice A ws.length c],
          .pointer (some ⟨w.heap.size, 0, none⟩), u2, u3,
          .pointer (some ⟨w.heap.size + 1 + 1, 0, none⟩), .int .u8 L, undef, u7, undef,
          .int .u8 x.1.2.toNat, .pointer (some ⟨w.heap.size, 0, none⟩), .string nm, .bool true,
          .bool false, .bool false, .pointer (some ⟨w.heap.size, 1, none⟩),
          .slice A ws.length c, .int .i64 ws.length, .bool (decide ((8 : Int) < ws.length)),
          .bool (decide ((8 : Int) < ws.length)), .agg #[.slice none 0 0],
          .pointer (some ⟨w.heap.size + 1, 0, none⟩),
          .pointer (some ⟨w.heap.size, 1, none⟩), .slice A ws.length c,
          .int .i64 ws.length, .int .i64 ws.length, .bool false, u27, u28, u29, u30, u31,
          u32, u33, u34, u35, u36, u37, u38, u39, u40, u41, u42, u43, u44, u45, u46, u47, u48, u49, u50,
          .pointer (some ⟨w.heap.size + 1, 0, none⟩),
          .pointer (some ⟨w.heap.size, 0, none⟩), .string nm,
          .slice (some ⟨wr.heap.size, 0, none⟩) 1 1, v,
          .pointer (some ⟨w.heap.size, 1, none⟩), .slice A ws.length c,
          .func (.func 40) #[] #[.pointer (some ⟨w2.heap.size, 0, none⟩)], .int .i64 x.1.1, .int .u8 x.1.2.toNat, undef,
          undef, undef, undef, undef, undef, undef, undef, undef, undef], defers := [] }) ?assign ?body ?done ?stop
          case assign =>
            intro l x W K hK
            dsimp only [encB]
            gi_wp2
            exact hK
          case body =>
            rintro l pre x W ⟨hpu, hto⟩ hlen
            have cp := hto.p
            have hd : 1 ≤ 3 - 1 - 1 := by omega
            have hmx : Try.prog.follows .mixedOrders = true := by kernel_rfl
            have hne2 : W.heap.size ≠ w.heap.size + 1 := by
              have := World.block_lt_of_cell? W _ cp
              simp at this
              omega
            have hmm : m + 1 + pre.length ≤ 100 := by omega
            have hlt2 : w.heap.size + 1 + 1 < W.heap.size := by
              have := World.block_lt_of_cell? W _ cp
              simpa using this
            have hlt3 : w.heap.size + 2 < W.heap.size := hlt2
            have cp2 : W.cell? ⟨w.heap.size + 1 + 1, 0, none⟩ = some (.pointer (some ⟨w.heap.size + 1, 0, none⟩)) := cp
            have hb := x.2
            obtain ⟨b, hbb⟩ : ∃ b, x.1.2 = b := ⟨_, rfl⟩
            rw [hbb] at hb
            simp only [hbb]
            clear hbb
            have hadd := fun (s : ByteArray) (W' : World) (h1 : PutIs W' (w.heap.size + 1) (m + 1 + pre.length)) (h2 : W'.cell? ⟨W.heap.size, 0, none⟩ = some (.string s)) => add_any (w.heap.size + 1) 4 W.heap.size _ s W' h1 hmm h2 hne2
            rcases hb with rfl | rfl
            · have hix : ∀ W, (Instr.index 74 (.agg #[.string ⟨#[]⟩, .string ⟨#[33]⟩, .string ⟨#[93]⟩]) (.int .u8 1)).run Try.prog W = .ok (.string ⟨#[33]⟩) W := fun W => by kernel_rfl
              gi_wp2
              gi_region_with_o (refine ⟨trivial, ?_⟩; gi_at_call 28; refine (CallsIn.inRound l (callsIn_wide.2 (hadd ⟨#[33]⟩ _ (by exact hpu.alloc _) (by simp [World.cell?_alloc_new])))).mono ?_; rintro e w4 ⟨⟨v4, rfl⟩, hp4, hg4⟩)
              all_goals
                have hfin := body_end (.inr rfl) hpu hg4
                have hto4 := (hto.alloc _).drew.add hg4
                clear hadd cp cp2 hix hg4
                gi_wp2
                exact ⟨hfin.1, hfin.2, by rw [List.length_append]; exact hp4, hto4⟩
            · have hix : ∀ W, (Instr.index 74 (.agg #[.string ⟨#[]⟩, .string ⟨#[33]⟩, .string ⟨#[93]⟩]) (.int .u8 2)).run Try.prog W = .ok (.string ⟨#[93]⟩) W := fun W => by kernel_rfl
              gi_wp2
              gi_region_with_o (refine ⟨trivial, ?_⟩; gi_at_call 28; refine (CallsIn.inRound l (callsIn_wide.2 (hadd ⟨#[93]⟩ _ (by exact hpu.alloc _) (by simp [World.cell?_alloc_new])))).mono ?_; rintro e w4 ⟨⟨v4, rfl⟩, hp4, hg4⟩)
              all_goals
                have hfin := body_end (.inr rfl) hpu hg4
                have hto4 := (hto.alloc _).drew.add hg4
                clear hadd cp cp2 hix hg4
                gi_wp2
                exact ⟨hfin.1, hfin.2, by rw [List.length_append]; exact hp4, hto4⟩
          case done =>
            rintro D xs W hD _ ⟨hpu, hto⟩ hK
            have cp := hto.p
            obtain ⟨A2, c2, olds, p1, _⟩ := hpu
            gi_wp2
            refine ⟨by simp, .inl ⟨_, _, rfl, run_takeDeferred hK, ?_⟩⟩
            exact ⟨_, results_tmp2 rfl _ _ _, ⟨_, _, rfl, fun _ => hws⟩, hto.below.trans (belowK_b (w := w) (Nat.le_refl _) W D _ _ (by simp at hD; omega) hK rfl rfl)⟩
          case stop =>
            rintro D c pre W _ _ h _
            exact h.elim
end Go.Proofs.Ytgoecnhkmfnenaa
