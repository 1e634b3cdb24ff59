/- uuid.Parse: the sixteen bytes of a text, as the reference tells them. Conditions: none but that the text is one. -/
import Derived.Test.YtbigpcpifbjkfaaUuidIdx
import Derived.Test.YtbigpcpifbjkfaaUuidRefParse
namespace Go.Proofs.Ytbigpcpifbjkfaa
open Go.RowKit Go.ChangeShapes Go.WideShapes Go.ChangeAt
def sm (r : Int) : Int := if 65 ≤ r ∧ r ≤ 70 then r + 32 else r
theorem idx_any (r : Int) (w : World) (h : 0 ≤ r ∧ r ≤ 2147483647) :
    Calls Try.prog 18 #[.string ⟨#[48, 49, 50, 51, 52, 53, 54, 55, 56, 57, 97, 98, 99, 100, 101, 102]⟩, .int .i32 (sm r)] w fun e w' => e = .returned (.int .i64 (dig r)) ∧ Below w.heap.size w w' := by
  by_cases h1 : r < 128
  · obtain ⟨q1, q2, q3⟩ := idx_dig r ⟨h.1, h1⟩
    refine (Try.strings_IndexRune_ascii ⟨#[48, 49, 50, 51, 52, 53, 54, 55, 56, 57, 97, 98, 99, 100, 101, 102]⟩ (sm r) w q2 q1).mono ?_
    rintro e w' ⟨rfl, rfl⟩
    exact ⟨ret_int q3, Below.refl _ _⟩
  · have e1 : sm r = r := by unfold sm; rw [if_neg (by omega)]
    have e2 : dig r = -1 := by unfold dig; rw [if_neg (by omega), if_neg (by omega), if_neg (by omega)]
    rw [e1, e2]
    exact idx_high r w (by omega)
theorem small_sm (r : Int) (w : World) (h : 0 ≤ r ∧ r ≤ 2147483647) :
    Calls Try.prog 19 #[.int .i32 r] w fun e w' => e = .returned (.int .i32 (sm r)) ∧ w' = w := small_any r w h
theorem dig_high (r : Int) (h : 128 ≤ r) : dig r = -1 := by unfold dig; rw [if_neg (by omega), if_neg (by omega), if_neg (by omega)]
def pn (m : Nat) : Nat := pos (m / 2) + m % 2
def dg (s : ByteArray) (m : Nat) : Int := dig (ch s (pn m))
def arr (s : ByteArray) (n : Nat) : List Int := (List.range 16).map fun j => if 2 * j + 1 < n then 16 * dg s (2 * j) + dg s (2 * j + 1) else if 2 * j < n then dg s (2 * j) else 0
theorem arr_len (s : ByteArray) (n : Nat) : (arr s n).length = 16 := by simp [arr]
theorem arr_zero (s : ByteArray) : arr s 0 = zero16 := by simp [arr, zero16]; rfl
theorem arr_full (s : ByteArray) : arr s 32 = dec s := by
  unfold arr dec
  apply List.map_congr_left
  intro j hj
  have hj : j < 16 := by simpa using hj
  rw [if_pos (by omega)]
  have e1 : pn (2 * j) = pos j := by unfold pn; rw [show 2 * j / 2 = j by omega, show 2 * j % 2 = 0 by omega]; rfl
  have e2 : pn (2 * j + 1) = pos j + 1 := by unfold pn; rw [show (2 * j + 1) / 2 = j by omega, show (2 * j + 1) % 2 = 1 by omega]
  rw [dg, dg, e1, e2]
theorem pn_cnt (p : Nat) (h : p < 36) (hd : dash p = false) : pn (cnt p) = p := by
  have : ∀ i : Fin 36, dash i.1 = false → pn (cnt i.1) = i.1 := by decide
  exact this ⟨p, h⟩ hd
theorem arr_get (s : ByteArray) (n : Nat) (h : n < 32) : (arr s n).getD (n / 2) 0 = if n % 2 = 0 then 0 else dg s (n - 1) := by
  have h2 : n / 2 < 16 := by omega
  simp only [arr, List.getD, List.getElem?_map, List.getElem?_range h2, Option.map_some, Option.getD_some]
  by_cases q : n % 2 = 0
  · rw [if_pos q, if_neg (by omega), if_neg (by omega)]
  · rw [if_neg q, if_neg (by omega), if_pos (by omega), show 2 * (n / 2) = n - 1 by omega]
theorem arr_step (s : ByteArray) (n : Nat) (h : n < 32) : (arr s n).set (n / 2) (16 * (arr s n).getD (n / 2) 0 + dg s n) = arr s (n + 1) := by
  rw [arr_get s n h]
  apply List.ext_getElem
  · simp [arr]
  · intro j h1 h2
    have hj : j < 16 := by simpa [arr] using h1
    rw [List.getElem_set]
    simp only [arr, List.getElem_map, List.getElem_range]
    by_cases q : n / 2 = j
    · rw [if_pos q]
      by_cases q2 : n % 2 = 0
      · rw [if_pos q2, if_neg (by omega), if_pos (by omega), show 2 * j = n by omega]
        omega
      · rw [if_neg q2, if_pos (by omega), show 2 * j = n - 1 by omega, show n - 1 + 1 = n by omega]
    · rw [if_neg q]
      by_cases q2 : 2 * j + 1 < n
      · rw [if_pos q2, if_pos (by omega)]
      · rw [if_neg q2, if_neg (by omega : ¬ 2 * j + 1 < n + 1)]
        by_cases q3 : 2 * j < n
        · omega
        · rw [if_neg q3, if_neg (by omega : ¬ 2 * j < n + 1)]
theorem prev_nib (p : Nat) (h : p < 36) (hd : dash p = false) (ho : ¬ cnt p % 2 = 0) : pn (cnt p - 1) = p - 1 ∧ dash (p - 1) = false ∧ 0 < p := by
  have : ∀ i : Fin 36, dash i.1 = false → ¬ cnt i.1 % 2 = 0 → pn (cnt i.1 - 1) = i.1 - 1 ∧ dash (i.1 - 1) = false ∧ 0 < i.1 := by decide
  exact this ⟨p, h⟩ hd ho
theorem or16 (a d : Int) (ha : 0 ≤ a ∧ a < 16) (hd : 0 ≤ d ∧ d < 16) : bits BinOp.or IntKind.u8 (a * 16) d = 16 * a + d := by
  have : ∀ i j : Fin 16, bits BinOp.or IntKind.u8 ((i.1 : Int) * 16) (j.1 : Int) = 16 * (i.1 : Int) + (j.1 : Int) := by decide +kernel
  have h1 := this ⟨a.toNat, by omega⟩ ⟨d.toNat, by omega⟩
  simp only at h1
  rwa [Int.toNat_of_nonneg ha.1, Int.toNat_of_nonneg hd.1] at h1
set_option maxHeartbeats 4000000 in
theorem parse_any (s : ByteArray) (w : World) :
    Calls Try.prog 12 #[.string s] w fun e w' => e = .returned (.tuple #[.agg (av (parsed s).1), .int .i64 (parsed s).2]) ∧ Below w.heap.size w w' := by
  have hl0 : zero16.length = 16 := rfl
  have hz : (w.alloc (.cells (av zero16) 22)).heap.size = w.heap.size + 1 := by simp
  have hb0 : Below w.heap.size w (w.alloc (.cells (av zero16) 22)) := (Below.refl _ _).alloc (Nat.le_refl _) _
  have c2 : (w.alloc (.cells (av zero16) 22)).heap[w.heap.size]? = some (.cells (av zero16) 22) := heap_alloc_new _ _
  go_enter Try.func12, Try.ntmps12
  by_cases h : (s.size : Int) = 36
  · have h36 : s.size = 36 := by omega
    have hb1 : Below w.heap.size w ((w.alloc (.cells (av zero16) 22)).alloc (.stringIter s 0)) := hb0.alloc (by omega) _
    have d2 : ((w.alloc (.cells (av zero16) 22)).alloc (.stringIter s 0)).heap[w.heap.size]? = some (.cells (av zero16) 22) := by
      rw [((Below.refl (w.heap.size + 1) (w.alloc (.cells (av zero16) 22))).alloc (by omega) _).block _ (by omega)]
      exact c2
    have d3 : ((w.alloc (.cells (av zero16) 22)).alloc (.stringIter s 0)).heap[w.heap.size + 1]? = some (.stringIter s 0) := by
      rw [← hz]
      exact heap_alloc_new _ _
    go_wp2
    go_loopw [4] (fun n wr => ∃ p : Nat, p ≤ 36 ∧ n = .int .i64 (cnt p) ∧ (∀ j, j < p → okAt s j = true) ∧ wr.heap[w.heap.size]? = some (.cells (av (arr s (cnt p))) 22) ∧ wr.heap[w.heap.size + 1]? = some (.stringIter s p) ∧ Below w.heap.size w wr) (fun _ wr => 36 - wr.iterPos (w.heap.size + 1))
    case atStart => exact ⟨0, by omega, rfl, by simp, by rw [show cnt 0 = 0 from rfl, arr_zero]; exact d2, d3, hb1⟩
    case round =>
      clear c2 d2 d3 hb0 hb1 hz
      obtain ⟨p, hp, rfl, hok, c2, hit, hb⟩ := hrel
      by_cases hlt : p < 36
      · have hsh := shape_at p hlt
        have hltp : p < s.size := by omega
        have hfp : (p : Int) < 36 := by omega
        have ech := ch_at s p hltp
        have setup : ∀ nx : Nat, ∃ w2, wr.iterAt (w.heap.size + 1) s nx = w2 ∧ w2.heap[w.heap.size]? = some (.cells (av (arr s (cnt p))) 22) ∧ w2.heap[w.heap.size + 1]? = some (.stringIter s nx) ∧ Below w.heap.size w w2 := fun nx =>
          ⟨_, rfl, by rw [Lib.iterAt_other _ _ _ _ _ (by omega)]; exact c2, Lib.iterAt_heap _ _ _ _ _ hit, Lib.below_iterAt hb (by omega) s nx⟩
        have hmeas : wr.iterPos (w.heap.size + 1) = p := by simp [World.iterPos, hit]
        have hrng := ch_rng s p
        by_cases hc : (s[p]'hltp).toNat < 128
        · have hnx := fun ty => Lib.run_next_ascii_at (P := Try.prog) wr (w.heap.size + 1) s p ty hit hltp hc
          rw [ech] at hnx
          obtain ⟨nx, hnxe⟩ : ∃ nx, p + 1 = nx := ⟨_, rfl⟩
          rw [hnxe] at hnx
          obtain ⟨w2, hw2, c2', hit2, hb2⟩ := setup nx
          rw [hw2] at hnx
          have hx1 : ch s p < 128 := by omega
          clear setup hc ech hb hw2
          have hlb : w.heap.size < w2.heap.size := (Array.getElem?_eq_some_iff.1 c2').1
          have hlb2 : w.heap.size + 1 < w2.heap.size := (Array.getElem?_eq_some_iff.1 hit2).1
          have okd : okAt s p = if dash p then decide (ch s p = 45) else decide (0 ≤ dig (ch s p)) := rfl
          obtain ⟨x, hx⟩ : ∃ x, ch s p = x := ⟨_, rfl⟩
          rw [hx] at hnx hrng hx1 okd
          by_cases hd : dash p = true
          · rw [if_pos hd] at hsh okd
            by_cases h45 : x = 45
            · subst h45
              have hok' : ∀ j, j < nx → okAt s j = true := by
                intro j hj
                by_cases q : j < p
                · exact hok j q
                · obtain rfl : j = p := by omega
                  rw [okd]; rfl
              have hcn : cnt nx = cnt p := by rw [← hnxe, cnt_dash p hlt hd]
              rw [← hcn] at c2'
              clear c2 hit
              go_wp2
              refine ⟨⟨nx, by omega, by rw [hcn], hok', c2', hit2, hb2⟩, ?_⟩
              rw [hmeas, show w2.iterPos (w.heap.size + 1) = nx by simp [World.iterPos, hit2]]
              omega
            · have hall := bad_all s p hlt (by rw [okd]; simpa using h45)
              have h45' : (x == 45) = false := by rw [beq_eq_false_iff_ne]; exact h45
              clear c2 hit
              have c2 := c2'
              go_wp2_with fail
              refine (small_sm x w2 (by omega)).mono ?_
              rintro e w3 ⟨rfl, rfl⟩
              go_wp2_with fail
              refine (idx_any x w3 (by omega)).mono ?_
              rintro e w4 ⟨rfl, hb4⟩
              have c3 : w4.heap[w.heap.size]? = some (.cells (av (arr s (cnt p))) 22) := by rw [hb4.block _ hlb]; exact c2
              have hit3 : w4.heap[w.heap.size + 1]? = some (.stringIter s nx) := by rw [hb4.block _ hlb2]; exact hit2
              have hb3 : Below w.heap.size w w4 := hb2.trans (hb4.mono (Nat.le_of_lt hlb))
              have hpr : parsed s = (zero16, 130) := by rw [parsed, if_neg (by simp [hall])]
              have hla := arr_len s (cnt p)
              have hb' := below_setRow hb3 (Nat.le_refl w.heap.size) (av zero16)
              have c5 := row16 (ys := zero16) c3
              go_wp2_with (first | (refine wpList_store16 rfl _ _ rfl w.heap.size (arr s (cnt p)) zero16 22 rfl rfl c3 hla hl0 ?_))
              exact bodyPost_ret (res16 Try.results12 _ _ _ _ _ (.int .i64 130) rfl rfl c5 hl0) rfl ⟨by first | (rw [hpr]) | rfl, hb'⟩
          · replace hd : dash p = false := by simpa using hd
            rw [hd] at hsh okd
            simp only [Bool.false_eq_true, if_false] at hsh okd
            obtain ⟨hc1, hc2⟩ := cnt_not p hlt hd
            have hdgr := dig_lt x
            have hdg : dg s (cnt p) = dig x := by rw [dg, pn_cnt p hlt hd, hx]
            have c2 := c2'
            clear c2'
            go_wp2_with fail
            refine (small_sm x w2 (by omega)).mono ?_
            rintro e w3 ⟨rfl, rfl⟩
            go_wp2_with fail
            refine (idx_any x w3 (by omega)).mono ?_
            rintro e w4 ⟨rfl, hb4⟩
            have c3 : w4.heap[w.heap.size]? = some (.cells (av (arr s (cnt p))) 22) := by rw [hb4.block _ hlb]; exact c2
            have hit3 : w4.heap[w.heap.size + 1]? = some (.stringIter s nx) := by rw [hb4.block _ hlb2]; exact hit2
            have hb3 : Below w.heap.size w w4 := hb2.trans (hb4.mono (Nat.le_of_lt hlb))
            by_cases hneg : dig x < 0
            · have hall := bad_all s p hlt (by rw [okd]; simpa using hneg)
              have hpr : parsed s = (zero16, 130) := by rw [parsed, if_neg (by simp [hall])]
              have hla := arr_len s (cnt p)
              have hb' := below_setRow hb3 (Nat.le_refl w.heap.size) (av zero16)
              have c5 := row16 (ys := zero16) c3
              go_wp2_with (first | (refine wpList_store16 rfl _ _ rfl w.heap.size (arr s (cnt p)) zero16 22 rfl rfl c3 hla hl0 ?_))
              exact bodyPost_ret (res16 Try.results12 _ _ _ _ _ (.int .i64 130) rfl rfl c5 hl0) rfl ⟨by first | (rw [hpr]) | rfl, hb'⟩
            · have hst := arr_step s (cnt p) hc2
              have hg := arr_get s (cnt p) hc2
              have hcell := av_cell c3 (cnt p / 2) (by rw [arr_len]; omega)
              rw [hdg] at hst
              obtain ⟨old, hold⟩ : ∃ old, (arr s (cnt p)).getD (cnt p / 2) 0 = old := ⟨_, rfl⟩
              rw [hold] at hst hg hcell
              have hor : 0 ≤ old ∧ old < 16 := by
                rw [hg]
                split
                · omega
                · rename_i hodd
                  obtain ⟨e1, e2, e3⟩ := prev_nib p hlt hd hodd
                  have := dig_lt (ch s (p - 1))
                  have hk := hok (p - 1) (by omega)
                  rw [okAt, e2] at hk
                  simp only [Bool.false_eq_true, if_false, decide_eq_true_eq] at hk
                  rw [dg, e1]
                  omega
              have hor2 := or16 old (dig x) hor (by omega)
              have hfz : w4.frozen? ⟨w.heap.size, cnt p / 2, none⟩ = false := by simp [World.frozen?, c3]
              have hset : (av (arr s (cnt p))).setIfInBounds (cnt p / 2) (.int .u8 (16 * old + dig x)) = av (arr s (cnt nx)) := by
                rw [av_set, hst, ← hnxe, hc1]
              obtain ⟨w5, hw5⟩ : ∃ w5, w4.setCell ⟨w.heap.size, cnt p / 2, none⟩ (.int .u8 (16 * old + dig x)) = w5 := ⟨_, rfl⟩
              have g1 : w5.heap[w.heap.size]? = some (.cells (av (arr s (cnt nx))) 22) := by
                rw [← hw5]
                simp [World.setCell, Array.getElem?_modify, c3, hset]
              have g2 : w5.heap[w.heap.size + 1]? = some (.stringIter s nx) := by
                rw [← hw5]
                simp [World.setCell, Array.getElem?_modify, hit3]
              have g3 : Below w.heap.size w w5 := by
                rw [← hw5]
                exact hb3.setCell (Nat.le_refl _) _
              have hok' : ∀ j, j < nx → okAt s j = true := by
                intro j hj
                by_cases q : j < p
                · exact hok j q
                · obtain rfl : j = p := by omega
                  rw [okd]
                  simpa using hneg
              have hcn : (cnt nx : Int) = cnt p + 1 := by rw [← hnxe, hc1]; omega
              have hv1 : 0 ≤ 16 * old + dig x ∧ 16 * old + dig x < 256 := by omega
              clear hg hst hset hold hit hit2 hdg okd hok
              go_wp2
              refine ⟨⟨nx, by omega, by rw [hcn], hok', ?_, ?_, ?_⟩, ?_⟩
              · exact g1
              · exact g2
              · exact g3
              · rw [hmeas, show w5.iterPos (w.heap.size + 1) = nx by simp [World.iterPos, g2]]
                omega
        · have hnx := fun ty => Lib.run_next_any_at (P := Try.prog) wr (w.heap.size + 1) s p ty hit hltp
          obtain ⟨hd1, hd2⟩ := decode_high s p hltp (by omega)
          have hd3 := decode_le s p
          obtain ⟨nx, hnxe⟩ : ∃ nx, p + (Utf8.decode s p).2 = nx := ⟨_, rfl⟩
          rw [hnxe] at hnx
          obtain ⟨x, hx⟩ : ∃ x : Int, ((Utf8.decode s p).1 : Int) = x := ⟨_, rfl⟩
          rw [hx] at hnx
          obtain ⟨w2, hw2, c2', hit2, hb2⟩ := setup nx
          rw [hw2] at hnx
          have hx1 : 128 ≤ x ∧ x ≤ 2147483647 := by omega
          have hlb : w.heap.size < w2.heap.size := (Array.getElem?_eq_some_iff.1 c2').1
          have hch : 128 ≤ ch s p := by omega
          have hall := bad_all s p hlt (by
            rw [okAt, dig_high _ hch]
            split
            · simp; omega
            · rfl)
          have h45' : (x == 45) = false := by rw [beq_eq_false_iff_ne]; omega
          clear setup hc ech hb hw2 hx hnxe hd1 hd2 hd3 hch hrng c2 hit hok
          by_cases hd : dash p = true
          · rw [if_pos hd] at hsh
            go_wp2_with fail
            refine (small_sm x w2 (by omega)).mono ?_
            rintro e w3 ⟨rfl, rfl⟩
            go_wp2_with fail
            refine (idx_any x w3 (by omega)).mono ?_
            rintro e w4 ⟨rfl, hb4⟩
            rw [dig_high x (by omega)]
            have c3 : w4.heap[w.heap.size]? = some (.cells (av (arr s (cnt p))) 22) := by rw [hb4.block _ hlb]; exact c2'
            have hb3 : Below w.heap.size w w4 := hb2.trans (hb4.mono (Nat.le_of_lt hlb))
            have hpr : parsed s = (zero16, 130) := by rw [parsed, if_neg (by simp [hall])]
            have hla := arr_len s (cnt p)
            have hb' := below_setRow hb3 (Nat.le_refl w.heap.size) (av zero16)
            have c5 := row16 (ys := zero16) c3
            go_wp2_with (first | (refine wpList_store16 rfl _ _ rfl w.heap.size (arr s (cnt p)) zero16 22 rfl rfl c3 hla hl0 ?_))
            exact bodyPost_ret (res16 Try.results12 _ _ _ _ _ (.int .i64 130) rfl rfl c5 hl0) rfl ⟨by first | (rw [hpr]) | rfl, hb'⟩
          · rw [if_neg hd] at hsh
            go_wp2_with fail
            refine (small_sm x w2 (by omega)).mono ?_
            rintro e w3 ⟨rfl, rfl⟩
            go_wp2_with fail
            refine (idx_any x w3 (by omega)).mono ?_
            rintro e w4 ⟨rfl, hb4⟩
            rw [dig_high x (by omega)]
            have c3 : w4.heap[w.heap.size]? = some (.cells (av (arr s (cnt p))) 22) := by rw [hb4.block _ hlb]; exact c2'
            have hb3 : Below w.heap.size w w4 := hb2.trans (hb4.mono (Nat.le_of_lt hlb))
            have hpr : parsed s = (zero16, 130) := by rw [parsed, if_neg (by simp [hall])]
            have hla := arr_len s (cnt p)
            have hb' := below_setRow hb3 (Nat.le_refl w.heap.size) (av zero16)
            have c5 := row16 (ys := zero16) c3
            go_wp2_with (first | (refine wpList_store16 rfl _ _ rfl w.heap.size (arr s (cnt p)) zero16 22 rfl rfl c3 hla hl0 ?_))
            exact bodyPost_ret (res16 Try.results12 _ _ _ _ _ (.int .i64 130) rfl rfl c5 hl0) rfl ⟨by first | (rw [hpr]) | rfl, hb'⟩
      · obtain rfl : p = 36 := by omega
        have hnx := fun ty => Lib.run_next_end_at (P := Try.prog) wr (w.heap.size + 1) s 36 ty hit (by omega)
        have hall : okAll s = true := List.all_eq_true.2 fun j hj => hok j (by have : j < 36 := (by simpa using hj); exact this)
        have hpr : parsed s = (dec s, 0) := by rw [parsed, if_pos ⟨h36, hall⟩]
        rw [show cnt 36 = 32 from rfl, arr_full] at c2
        have hl := dec_len s
        have hb' := below_setRow hb (Nat.le_refl _) (av (dec s))
        have c5 := row16 (ys := dec s) c2
        go_wp2_with (first | (refine wpList_load16 rfl _ rfl w.heap.size (dec s) 22 rfl c2 hl ?_) | (refine wpList_store16 rfl _ _ rfl w.heap.size (dec s) (dec s) 22 rfl rfl c2 hl hl ?_))
        exact bodyPost_ret (res16 Try.results12 _ _ _ _ _ (.int .i64 0) rfl rfl c5 hl) rfl ⟨by first | (rw [hpr]) | rfl, hb'⟩
  · have hpr : parsed s = (zero16, 130) := by rw [parsed, if_neg (by omega)]
    rw [hpr]
    have hb' := below_setRow hb0 (Nat.le_refl _) (av zero16)
    have c5 := row16 (ys := zero16) c2
    go_wp2_with (first | (refine wpList_load16 rfl _ rfl w.heap.size zero16 22 rfl c2 hl0 ?_) | (refine wpList_store16 rfl _ _ rfl w.heap.size zero16 zero16 22 rfl rfl c2 hl0 hl0 ?_))
    exact bodyPost_ret (res16 Try.results12 _ _ _ _ _ (.int .i64 130) rfl rfl c5 hl0) rfl ⟨rfl, hb'⟩
end Go.Proofs.Ytbigpcpifbjkfaa
