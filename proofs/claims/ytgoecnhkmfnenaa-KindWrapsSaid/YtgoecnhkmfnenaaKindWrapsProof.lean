/- KindWraps: wrappers on both change nothing. Conditions: none. -/
import Derived.Test.YtgoecnhkmfnenaaRows
import Derived.Test.YtgoecnhkmfnenaaFits
import Derived.Test.YtgoecnhkmfnenaaItem
import Derived.Test.YtgoecnhkmfnenaaNewR
import Derived.Test.YtgoecnhkmfnenaaKOpen
import Derived.ProofKit
import Derived.Deep.DeepCutAuto
namespace Go.Proofs.Ytgoecnhkmfnenaa.kindWraps
open Go.RowKit
set_option maxHeartbeats 8000000 in
set_option maxRecDepth 100000 in
theorem walk_small (na nb : ByteArray) (A A2 : Option Addr) (c c2 : Nat) (fa tb : List UInt8) (w : World) {B : Nat} (hx : Rd w B A (bv fa)) (hy : Rd w B A2 (bv tb)) (hB : B ≤ w.heap.size)
    (hc : fa.length ≤ c) (hm : c ≤ maxLen) (hc2 : tb.length ≤ c2) (hm2 : c2 ≤ maxLen) (n1 : fa.length ≤ 20) (n2 : tb.length ≤ 20) :
    Calls Try.prog 3 #[.agg #[.string na, .slice A fa.length c], .agg #[.string nb, .slice A2 tb.length c2]] w fun e w' => e = .returned (.bool true) ∧ Below w.heap.size w w' := by
  have hb0 : Below w.heap.size w ((w.alloc (.cells #[.string na, .slice A fa.length c] 24)).alloc (.cells #[.string nb, .slice A2 tb.length c2] 24)) := ((Below.refl _ _).alloc (Nat.le_refl _) _).alloc (by simp) _
  have hx0 := Rd.via hb0 hx hB
  have hy0 := Rd.via hb0 hy hB
  obtain ⟨i0, hi, hz0, hz1, hz2⟩ := info_parts info_u8
  go_enter Try.func3, Try.ntmps3
  go_wp2_with fail
  refine (alive_any _).mono ?_
  rintro e w1 ⟨rfl, hb1⟩
  have hbox := boxes hb1
  have hx1 := Rd.via hb1 hx0 (Nat.le_trans hB hb0.size)
  have hy1 := Rd.via hb1 hy0 (Nat.le_trans hB hb0.size)
  have hB1 : Below w.heap.size w w1 := hb0.trans (hb1.mono hb0.size)
  have hm1 : (fa.length : Int) ≤ 20 := by omega
  have hm2' : (tb.length : Int) ≤ 20 := by omega
  obtain ⟨⟨e0, e1, e2, e3⟩, z0, z1, z2, z3⟩ := hbox
  have hs1 := hb1.size
  simp only [World.size_alloc] at hs1
  have ga : BoxR w1 w.heap.size na A fa.length c := ⟨by omega, e0, e1, z0, z1⟩
  have gb : BoxR w1 (w.heap.size + 1) nb A2 tb.length c2 := ⟨by omega, e2, e3, z2, z3⟩
  obtain ⟨F, hF⟩ : ∃ F, fits na nb fa tb = F := ⟨_, rfl⟩
  have hfit := fits_any na nb fa tb A A2 c c2 w1 B hx1 hy1 (Nat.le_trans hB hB1.size) hc hm hc2 hm2
  unfold rf at hfit
  rw [hF] at hfit
  go_wp2_with fail
  refine hfit.mono ?_
  rintro e w2 ⟨rfl, hb2⟩
  replace ga := ga.keep hb2
  replace gb := gb.keep hb2
  have hx2 := Rd.via hb2 hx1 (Nat.le_trans hB hB1.size)
  have hy2 := Rd.via hb2 hy1 (Nat.le_trans hB hB1.size)
  have hB2 : Below w.heap.size w w2 := hB1.trans (hb2.mono hB1.size)
  clear hfit hb1 hb2 hx1 hy1 hB1 hx0 hy0 hb0 e0 e1 e2 e3 hs1 z0 z1 z2 z3
  have hBw : B ≤ w2.heap.size := Nat.le_trans hB hB2.size
  have HF := Lib.hid hF
  clear hF
  go_upto_region 5 with fail
  go_cut [7] (fun s7 wx => NewR w2 na (2 :: fa) s7 wx)
  case first =>
    clear gb hy2
    obtain ⟨ga1, ga2, ga3, ga4, ga5⟩ := ga
    go_region_held3 (fun w' => w'.cell? ⟨w.heap.size, 0, none⟩ = some (.string na) ∧ w'.cell? ⟨w.heap.size, 1, none⟩ = some (.slice A fa.length c)) (first | exact ⟨k0', k1'⟩ | exact ⟨set2_far (by omega) k0', set2_far (by omega) k1'⟩ | go_keep)
      (first | ((refine step_append_rd (by rfl) _ _ _ (by rfl) w2.heap.size 5 i0 (.int .u8 0) 1 Try.underlying22 hi hz0 hz1 hz2 (by rfl) (.slice (some ⟨w2.heap.size, 0, none⟩) 1 1) 1 [.int .u8 2] (by rfl) (by first | exact World.ownsRow_lit _ #[.int .u8 2] 1 (by simp) (by unfold maxLen; omega) (by rfl) | exact (World.ownsRow_lit _ #[.int .u8 2] 1 (by simp) (by unfold maxLen; omega) (by rfl)).alloc _) (B := B) A fa.length c (bv fa) (by rfl) (by exact Rd.via (by repeat (first | exact Below.refl w2.heap.size _ | refine Below.alloc ?_ (by first | omega | (simp; done) | (simp; omega)) _ | refine Below.drew ?_)) hx2 hBw) (bv_len fa) (bv_one fa) (by unfold maxLen; omega) (by omega) (by first | (simp; done) | (simp; omega)) ?_; intro v3 w3 hown hgrow hrow; have hb3 : Below w2.heap.size w2 w3 := Below.grown (by repeat (first | exact Below.refl w2.heap.size _ | refine Below.alloc ?_ (by first | omega | (simp; done) | (simp; omega)) _ | refine Below.drew ?_)) hgrow (by first | (simp; done) | (simp; omega)) hrow; obtain ⟨A3, c3, rfl, hd1, hd2⟩ := own_slice hown; have k0' := (hb3.cell (p := ⟨w.heap.size, 0, none⟩) ga1).trans ga2; have k1' := (hb3.cell (p := ⟨w.heap.size, 1, none⟩) ga1).trans ga3; have q := (hgrow.block (w2.heap.size + 1) (by simp) (by simp [Value.ownBlock])).trans (heap2_new w2 (.cells #[.int .u8 2] 5) (.cells #[.string ⟨#[]⟩, .slice none 0 0] 24)); have q0 : w3.cell? ⟨w2.heap.size + 1, 0, none⟩ = some (.string ⟨#[]⟩) := (by simp [World.cell?, q]); have q1 : w3.cell? ⟨w2.heap.size + 1, 1, none⟩ = some (.slice none 0 0) := (by simp [World.cell?, q]); have q2 : w3.frozen? ⟨w2.heap.size + 1, 0, none⟩ = false := (by simp [World.frozen?, q]); have q3 : w3.frozen? ⟨w2.heap.size + 1, 1, none⟩ = false := (by simp [World.frozen?, q]))) | ((refine step_append_rd (by rfl) _ _ _ (by rfl) w2.heap.size 5 i0 (.int .u8 0) 1 Try.underlying22 hi hz0 hz1 hz2 (by rfl) (.slice (some ⟨w2.heap.size + 1, 0, none⟩) 1 1) 1 [.int .u8 2] (by rfl) (own2_lit w2 (.cells #[.string ⟨#[]⟩, .slice none 0 0] 24) #[.int .u8 2] 1 (by unfold maxLen; omega) (by rfl)) (B := B) A fa.length c (bv fa) (by rfl) (by exact Rd.via (by repeat (first | exact Below.refl w2.heap.size _ | refine Below.alloc ?_ (by first | omega | (simp; done) | (simp; omega)) _ | refine Below.drew ?_)) hx2 hBw) (bv_len fa) (bv_one fa) (by unfold maxLen; omega) (by omega) (by first | (simp; done) | (simp; omega)) ?_; intro v3 w3 hown hgrow hrow; have hb3 : Below w2.heap.size w2 w3 := Below.grown (by repeat (first | exact Below.refl w2.heap.size _ | refine Below.alloc ?_ (by first | omega | (simp; done) | (simp; omega)) _ | refine Below.drew ?_)) hgrow (by first | (simp; done) | (simp; omega)) hrow; obtain ⟨A3, c3, rfl, hd1, hd2⟩ := own_slice hown; have k0' := (hb3.cell (p := ⟨w.heap.size, 0, none⟩) ga1).trans ga2; have k1' := (hb3.cell (p := ⟨w.heap.size, 1, none⟩) ga1).trans ga3; have q := (hgrow.block w2.heap.size (by first | (simp; done) | (simp; omega)) (by simp [Value.ownBlock])).trans (heap2_old w2 (.cells #[.string ⟨#[]⟩, .slice none 0 0] 24) (.cells #[.int .u8 2] 5)); have q0 : w3.cell? ⟨w2.heap.size, 0, none⟩ = some (.string ⟨#[]⟩) := (by simp [World.cell?, q]); have q1 : w3.cell? ⟨w2.heap.size, 1, none⟩ = some (.slice none 0 0) := (by simp [World.cell?, q]); have q2 : w3.frozen? ⟨w2.heap.size, 0, none⟩ = false := (by simp [World.frozen?, q]); have q3 : w3.frozen? ⟨w2.heap.size, 1, none⟩ = false := (by simp [World.frozen?, q]))) | ((refine step_append_rd (by rfl) _ _ _ (by rfl) w2.heap.size 5 i0 (.int .u8 0) 1 Try.underlying22 hi hz0 hz1 hz2 (by rfl) (.slice (some ⟨w2.heap.size, 0, none⟩) 1 1) 1 [.int .u8 2] (by rfl) (by first | exact World.ownsRow_lit _ #[.int .u8 2] 1 (by simp) (by unfold maxLen; omega) (by rfl) | exact (World.ownsRow_lit _ #[.int .u8 2] 1 (by simp) (by unfold maxLen; omega) (by rfl)).alloc _) (B := B) A fa.length c (bv fa) (by rfl) (by exact Rd.via (by repeat (first | exact Below.refl w2.heap.size _ | refine Below.alloc ?_ (by first | omega | (simp; done) | (simp; omega)) _ | refine Below.drew ?_)) hx2 hBw) (bv_len fa) (bv_one fa) (by unfold maxLen; omega) (by omega) (by first | (simp; done) | (simp; omega)) ?_; intro v3 w3 hown hgrow hrow; have hb3 : Below w2.heap.size w2 w3 := Below.grown (by repeat (first | exact Below.refl w2.heap.size _ | refine Below.alloc ?_ (by first | omega | (simp; done) | (simp; omega)) _ | refine Below.drew ?_)) hgrow (by first | (simp; done) | (simp; omega)) hrow; obtain ⟨A3, c3, rfl, hd1, hd2⟩ := own_slice hown; have k0' := (hb3.cell (p := ⟨w.heap.size, 0, none⟩) ga1).trans ga2; have k1' := (hb3.cell (p := ⟨w.heap.size, 1, none⟩) ga1).trans ga3)))
    all_goals (go_wp2_with fail; go_meet; first | exact newR_alloc (x := 2) hb3 hown hd1 hd2 | exact newR_store (x := 2) hb3 hown hd1 hd2 q (by omega))
  case rest =>
    obtain ⟨gp, P, cp, rfl, hgp, bp, rp, lp, mp, hb5⟩ := hcut
    have hgp' : w.heap.size + 1 < gp := by have := gb.1; omega
    replace ga := ga.keep hb5
    replace gb := gb.keep hb5
    have hx5 := Rd.via hb5 hx2 hBw
    have hy5 := Rd.via hb5 hy2 hBw
    have hB5 : Below w.heap.size w wc := hB2.trans (hb5.mono hB2.size)
    have hBw5 : B ≤ wc.heap.size := Nat.le_trans hB hB5.size
    clear hx2 hy2 hBw
    go_upto_region 6 with fail
    obtain ⟨w5, hw5⟩ : ∃ w5, wc = w5 := ⟨_, rfl⟩
    subst hw5
    simp only [List.length_cons] at bp lp
    go_cut [8] (fun s8 wx => NewR wc nb (2 :: tb) s8 wx)
    case first =>
      clear ga hx5 bp rp
      obtain ⟨gb1, gb2, gb3, gb4, gb5⟩ := gb
      go_region_held3 (fun w' => w'.cell? ⟨w.heap.size + 1, 0, none⟩ = some (.string nb) ∧ w'.cell? ⟨w.heap.size + 1, 1, none⟩ = some (.slice A2 tb.length c2)) (first | exact ⟨k0', k1'⟩ | exact ⟨set2_far (by omega) k0', set2_far (by omega) k1'⟩ | go_keep)
        (first | ((refine step_append_rd (by rfl) _ _ _ (by rfl) wc.heap.size 5 i0 (.int .u8 0) 1 Try.underlying22 hi hz0 hz1 hz2 (by rfl) (.slice (some ⟨wc.heap.size, 0, none⟩) 1 1) 1 [.int .u8 2] (by rfl) (by first | exact World.ownsRow_lit _ #[.int .u8 2] 1 (by simp) (by unfold maxLen; omega) (by rfl) | exact (World.ownsRow_lit _ #[.int .u8 2] 1 (by simp) (by unfold maxLen; omega) (by rfl)).alloc _) (B := B) A2 tb.length c2 (bv tb) (by rfl) (by exact Rd.via (by repeat (first | exact Below.refl wc.heap.size _ | refine Below.alloc ?_ (by first | omega | (simp; done) | (simp; omega)) _ | refine Below.drew ?_)) hy5 hBw5) (bv_len tb) (bv_one tb) (by unfold maxLen; omega) (by omega) (by first | (simp; done) | (simp; omega)) ?_; intro v3 w6 hown hgrow hrow; have hb3 : Below wc.heap.size wc w6 := Below.grown (by repeat (first | exact Below.refl wc.heap.size _ | refine Below.alloc ?_ (by first | omega | (simp; done) | (simp; omega)) _ | refine Below.drew ?_)) hgrow (by first | (simp; done) | (simp; omega)) hrow; obtain ⟨A3, c3, rfl, hd1, hd2⟩ := own_slice hown; have k0' := (hb3.cell (p := ⟨w.heap.size + 1, 0, none⟩) gb1).trans gb2; have k1' := (hb3.cell (p := ⟨w.heap.size + 1, 1, none⟩) gb1).trans gb3; have q := (hgrow.block (wc.heap.size + 1) (by simp) (by simp [Value.ownBlock])).trans (heap2_new wc (.cells #[.int .u8 2] 5) (.cells #[.string ⟨#[]⟩, .slice none 0 0] 24)); have q0 : w6.cell? ⟨wc.heap.size + 1, 0, none⟩ = some (.string ⟨#[]⟩) := (by simp [World.cell?, q]); have q1 : w6.cell? ⟨wc.heap.size + 1, 1, none⟩ = some (.slice none 0 0) := (by simp [World.cell?, q]); have q2 : w6.frozen? ⟨wc.heap.size + 1, 0, none⟩ = false := (by simp [World.frozen?, q]); have q3 : w6.frozen? ⟨wc.heap.size + 1, 1, none⟩ = false := (by simp [World.frozen?, q]))) | ((refine step_append_rd (by rfl) _ _ _ (by rfl) wc.heap.size 5 i0 (.int .u8 0) 1 Try.underlying22 hi hz0 hz1 hz2 (by rfl) (.slice (some ⟨wc.heap.size + 1, 0, none⟩) 1 1) 1 [.int .u8 2] (by rfl) (own2_lit wc (.cells #[.string ⟨#[]⟩, .slice none 0 0] 24) #[.int .u8 2] 1 (by unfold maxLen; omega) (by rfl)) (B := B) A2 tb.length c2 (bv tb) (by rfl) (by exact Rd.via (by repeat (first | exact Below.refl wc.heap.size _ | refine Below.alloc ?_ (by first | omega | (simp; done) | (simp; omega)) _ | refine Below.drew ?_)) hy5 hBw5) (bv_len tb) (bv_one tb) (by unfold maxLen; omega) (by omega) (by first | (simp; done) | (simp; omega)) ?_; intro v3 w6 hown hgrow hrow; have hb3 : Below wc.heap.size wc w6 := Below.grown (by repeat (first | exact Below.refl wc.heap.size _ | refine Below.alloc ?_ (by first | omega | (simp; done) | (simp; omega)) _ | refine Below.drew ?_)) hgrow (by first | (simp; done) | (simp; omega)) hrow; obtain ⟨A3, c3, rfl, hd1, hd2⟩ := own_slice hown; have k0' := (hb3.cell (p := ⟨w.heap.size + 1, 0, none⟩) gb1).trans gb2; have k1' := (hb3.cell (p := ⟨w.heap.size + 1, 1, none⟩) gb1).trans gb3; have q := (hgrow.block wc.heap.size (by first | (simp; done) | (simp; omega)) (by simp [Value.ownBlock])).trans (heap2_old wc (.cells #[.string ⟨#[]⟩, .slice none 0 0] 24) (.cells #[.int .u8 2] 5)); have q0 : w6.cell? ⟨wc.heap.size, 0, none⟩ = some (.string ⟨#[]⟩) := (by simp [World.cell?, q]); have q1 : w6.cell? ⟨wc.heap.size, 1, none⟩ = some (.slice none 0 0) := (by simp [World.cell?, q]); have q2 : w6.frozen? ⟨wc.heap.size, 0, none⟩ = false := (by simp [World.frozen?, q]); have q3 : w6.frozen? ⟨wc.heap.size, 1, none⟩ = false := (by simp [World.frozen?, q]))) | ((refine step_append_rd (by rfl) _ _ _ (by rfl) wc.heap.size 5 i0 (.int .u8 0) 1 Try.underlying22 hi hz0 hz1 hz2 (by rfl) (.slice (some ⟨wc.heap.size, 0, none⟩) 1 1) 1 [.int .u8 2] (by rfl) (by first | exact World.ownsRow_lit _ #[.int .u8 2] 1 (by simp) (by unfold maxLen; omega) (by rfl) | exact (World.ownsRow_lit _ #[.int .u8 2] 1 (by simp) (by unfold maxLen; omega) (by rfl)).alloc _) (B := B) A2 tb.length c2 (bv tb) (by rfl) (by exact Rd.via (by repeat (first | exact Below.refl wc.heap.size _ | refine Below.alloc ?_ (by first | omega | (simp; done) | (simp; omega)) _ | refine Below.drew ?_)) hy5 hBw5) (bv_len tb) (bv_one tb) (by unfold maxLen; omega) (by omega) (by first | (simp; done) | (simp; omega)) ?_; intro v3 w6 hown hgrow hrow; have hb3 : Below wc.heap.size wc w6 := Below.grown (by repeat (first | exact Below.refl wc.heap.size _ | refine Below.alloc ?_ (by first | omega | (simp; done) | (simp; omega)) _ | refine Below.drew ?_)) hgrow (by first | (simp; done) | (simp; omega)) hrow; obtain ⟨A3, c3, rfl, hd1, hd2⟩ := own_slice hown; have k0' := (hb3.cell (p := ⟨w.heap.size + 1, 0, none⟩) gb1).trans gb2; have k1' := (hb3.cell (p := ⟨w.heap.size + 1, 1, none⟩) gb1).trans gb3)))
      all_goals (go_wp2_with fail; go_meet; first | exact newR_alloc (x := 2) hb3 hown hd1 hd2 | exact newR_store (x := 2) hb3 hown hd1 hd2 q (by omega))
    case rest =>
      obtain ⟨gq, Q, cq, rfl, hgq, bq, rq, lq, mq, hb6⟩ := hcut
      replace ga := ga.keep hb6
      replace gb := gb.keep hb6
      have hgpq : gp < gq := by have := bp.1; omega
      replace bp := bp.keep hb6
      simp only [List.length_cons] at bq lq
      rename World => w6
      have hx6 := Rd.via hb6 hx5 hBw5
      have hy6 := Rd.via hb6 hy5 hBw5
      have rp6 := Rd.via hb6 rp (Nat.le_refl _)
      have hB6 := hB5.trans (hb6.mono hB5.size)
      have hBw6 := Nat.le_trans hB hB6.size
      have hz6 := hb6.size
      clear hx5 hy5 hBw5 rp hB5 hb5 hB2
      have hitem := item_list na P cp fa w6 rp6 hz6 lp mp (by omega)
      obtain ⟨bp1, bp2, bp3, bp4, bp5⟩ := bp
      go_wp2_with fail
      refine hitem.mono ?_
      rintro e w7 ⟨X, cx, rfl, rx, hb7⟩
      replace ga := ga.keep hb7
      replace gb := gb.keep hb7
      have bp := BoxR.keep hb7 ⟨bp1, bp2, bp3, bp4, bp5⟩
      replace bq := bq.keep hb7
      have hx7 := Rd.via hb7 hx6 hBw6
      have hy7 := Rd.via hb7 hy6 hBw6
      have rp7 := (Rd.via hb7 rp6 hz6).mono (Nat.le_trans hz6 hb7.size)
      have rq7 := (Rd.via hb7 rq (Nat.le_refl _)).mono hb7.size
      have hB7 := hB6.trans (hb7.mono hB6.size)
      have hBw7 := Nat.le_trans hB hB7.size
      clear hx6 hy6 hBw6 rp6 rq bp1 bp2 bp3 bp4 bp5 hb7 hitem hB6 hz6
      go_upto_region 8 with fail
      obtain ⟨w8, hw8⟩ : ∃ w8, w7.alloc (.cells #[.string na, .slice X fa.length cx] 24) = w8 := ⟨_, rfl⟩
      have hb8 : Below w7.heap.size w7 w8 := by rw [← hw8]; exact (Below.refl _ _).alloc (Nat.le_refl _) _
      have bx : BoxR w8 w7.heap.size na X fa.length cx := by
        rw [← hw8]
        exact ⟨by simp, by simp [World.cell?_alloc_new], by simp [World.cell?_alloc_new], World.frozen?_alloc_at _ _ _ _ rfl, World.frozen?_alloc_at _ _ _ _ rfl⟩
      rw [hw8]
      replace ga := ga.keep hb8
      replace gb := gb.keep hb8
      replace bp := bp.keep hb8
      replace bq := bq.keep hb8
      have hx8 := (Rd.via hb8 hx7 hBw7).mono (Nat.le_trans hBw7 hb8.size)
      have hy8 := (Rd.via hb8 hy7 hBw7).mono (Nat.le_trans hBw7 hb8.size)
      have rx8 := (Rd.via hb8 rx (Nat.le_refl _)).mono hb8.size
      have rp8 := (Rd.via hb8 rp7 (Nat.le_refl _)).mono hb8.size
      have rq8 := (Rd.via hb8 rq7 (Nat.le_refl _)).mono hb8.size
      have hB8 := hB7.trans (hb8.mono hB7.size)
      generalize hgx : w7.heap.size = gx at *
      clear hx7 hy7 hBw7 rp7 rq7 rx hb8 hw8 hgx hB7
      have S8 : ∀ {W : World}, Below w8.heap.size w8 W → W.cell? ⟨gp, 0, none⟩ = some (.string na) ∧ W.cell? ⟨gp, 1, none⟩ = some (.slice P (fa.length + 1) cp) ∧ W.cell? ⟨gq, 0, none⟩ = some (.string nb) ∧ W.cell? ⟨gq, 1, none⟩ = some (.slice Q (tb.length + 1) cq) ∧ W.cell? ⟨gx, 0, none⟩ = some (.string na) ∧ W.cell? ⟨gx, 1, none⟩ = some (.slice X fa.length cx) ∧ W.cell? ⟨w.heap.size, 0, none⟩ = some (.string na) ∧ W.cell? ⟨w.heap.size, 1, none⟩ = some (.slice A fa.length c) :=
        fun h => ⟨(bp.keep h).2.1, (bp.keep h).2.2.1, (bq.keep h).2.1, (bq.keep h).2.2.1, (bx.keep h).2.1, (bx.keep h).2.2.1, (ga.keep h).2.1, (ga.keep h).2.2.1⟩
      have hD0 : Below w8.heap.size w8 w8.drew := (Below.refl _ _).drew
      have hS0 := S8 hD0
      have c1 : ∀ W, Below w8.heap.size w8 W → Calls Try.prog 9 #[.agg #[.string na, .slice P (fa.length + 1) cp], .agg #[.string nb, .slice Q (tb.length + 1) cq]] W fun e w' => e = .returned (.bool F) ∧ Below W.heap.size W w' := fun W h => by
        have := fits_any na nb (2 :: fa) (2 :: tb) P Q cp cq W w8.heap.size (Rd.via h rp8 (Nat.le_refl _)) (Rd.via h rq8 (Nat.le_refl _)) h.size (by simpa using lp) mp (by simpa using lq) mq
        rw [fits_two, HF.out] at this
        exact this
      have c2' : ∀ W, Below w8.heap.size w8 W → Calls Try.prog 11 #[.agg #[.string na, .slice X fa.length cx], .agg #[.string na, .slice A fa.length c]] W fun e w' => e = .returned (.bool true) ∧ Below W.heap.size W w' := fun W h => by
        have := same_any na na X A cx c fa fa W (Rd.via h rx8 (Nat.le_refl _)) (Rd.via h hx8 (Nat.le_refl _)) h.size
        simpa using this
      have c3' : ∀ W, Below w8.heap.size w8 W → Calls Try.prog 12 #[.agg #[.string na, .slice P (fa.length + 1) cp]] W fun e w' => ∃ A' c', e = .returned (.agg #[.string na, .slice A' (fa.length + 1) c']) ∧ Rd w' w'.heap.size A' (bv (2 :: fa)) ∧ Below W.heap.size W w' := fun W h => by
        have := bare_any na P cp (2 :: fa) W (Rd.via h rp8 (Nat.le_refl _)) h.size (by simpa using lp) mp (by simp; omega)
        rw [bare_two] at this
        exact this.mono fun e w' ⟨A', c', he, ho, hb⟩ => ⟨A', c', he, Rd.of_own ho, hb⟩
      have c4 : ∀ (W : World) Z cz, Below w8.heap.size w8 W → Rd W W.heap.size Z (bv (2 :: fa)) → Calls Try.prog 11 #[.agg #[.string na, .slice Z (fa.length + 1) cz], .agg #[.string na, .slice P (fa.length + 1) cp]] W fun e w' => e = .returned (.bool true) ∧ Below W.heap.size W w' := fun W Z cz h hz => by
        have := same_any na na Z P cz cp (2 :: fa) (2 :: fa) W hz ((Rd.via h rp8 (Nat.le_refl _)).mono h.size) (Nat.le_refl _)
        simpa using this
      go_region_held3 (fun W => W.cell? ⟨gp, 0, none⟩ = some (.string na) ∧ W.cell? ⟨gp, 1, none⟩ = some (.slice P (fa.length + 1) cp) ∧ W.cell? ⟨gq, 0, none⟩ = some (.string nb) ∧ W.cell? ⟨gq, 1, none⟩ = some (.slice Q (tb.length + 1) cq) ∧ W.cell? ⟨gx, 0, none⟩ = some (.string na) ∧ W.cell? ⟨gx, 1, none⟩ = some (.slice X fa.length cx) ∧ W.cell? ⟨w.heap.size, 0, none⟩ = some (.string na) ∧ W.cell? ⟨w.heap.size, 1, none⟩ = some (.slice A fa.length c)) (first | exact hS0 | exact hS1 | exact hS2 | exact hS3 | exact hS4)
        (first
          | (go_at_call 9; (with_reducible refine (c1 _ ?_).mono ?_); exact hD0; rintro e W1 ⟨rfl, hb9⟩; have hD1 : Below w8.heap.size w8 W1 := hD0.trans (hb9.mono hD0.size); have hS1 := S8 hD1)
          | (go_at_call 11; (with_reducible refine (c2' _ ?_).mono ?_); exact hD1; rintro e W2 ⟨rfl, hb9⟩; have hD2 : Below w8.heap.size w8 W2 := hD1.trans (hb9.mono hD1.size); have hS2 := S8 hD2)
          | (go_at_call 12; (with_reducible refine (c3' _ ?_).mono ?_); exact hD2; rintro e W3 ⟨Z, cz, rfl, hz, hb9⟩; have hD3 : Below w8.heap.size w8 W3 := hD2.trans (hb9.mono hD2.size); have hS3 := S8 hD3)
          | (go_at_call 11; (with_reducible refine (c4 _ Z cz ?_ ?_).mono ?_); exact hD3; exact hz; rintro e W4 ⟨rfl, hb9⟩; have hD4 : Below w8.heap.size w8 W4 := hD3.trans (hb9.mono hD3.size); have hS4 := S8 hD4))
      go_upto_region 10 with fail
      have ga4 := ga.keep hD4
      have gb4 := gb.keep hD4
      have bp4 := bp.keep hD4
      have bq4 := bq.keep hD4
      have hx9 := (Rd.via hD4 hx8 (Nat.le_refl _)).mono hD4.size
      have hy9 := (Rd.via hD4 hy8 (Nat.le_refl _)).mono hD4.size
      have hB9 := hB8.trans (hD4.mono hB8.size)
      clear c1 c2' c3' c4 S8 hD0 hD1 hD2 hD3 hS0 hS1 hS2 hS3 hS4 hz rp8 rq8 rx8 hx8 hy8 bx ga gb bp bq hB8 lp mp lq mq hD4
      obtain ⟨q1, q2, q3, q4, q5⟩ := ga4
      obtain ⟨s1, s2, s3, s4, s5⟩ := bp4
      go_upto_region 11 with (at_builtin; refine wpList_append_rd _ (by rfl) _ _ _ (by rfl) W4.heap.size 5 i0 (.int .u8 0) 1 Try.underlying22 hi hz0 hz1 hz2 (by rfl) (.slice (some ⟨W4.heap.size, 0, none⟩) 1 1) 1 [.int .u8 1] (by rfl) (World.ownsRow_lit W4 #[.int .u8 1] 1 (Nat.le_refl _) (by unfold maxLen; omega) (by rfl)) (B := W4.heap.size) A fa.length c (bv fa) (by rfl) (by exact Rd.via ((Below.refl _ _).alloc (Nat.le_refl _) _) hx9 (Nat.le_refl _)) (bv_len fa) (bv_one fa) (by unfold maxLen; omega) (by omega) (by simp) ?_; intro v5 w10 hown hgrow hrow; have hb10 : Below W4.heap.size W4 w10 := Below.grown ((Below.refl _ _).alloc (Nat.le_refl _) _) hgrow (by simp) hrow; obtain ⟨A5, c5, rfl, hd1, hd2⟩ := own_slice hown; have s3' := (hb10.cell (p := ⟨gp, 1, none⟩) s1).trans s3; have s5' := (hb10.frozen (p := ⟨gp, 1, none⟩) s1).trans s5)
      obtain ⟨w11, hw11⟩ : ∃ w11, w10.setCell ⟨gp, 1, none⟩ (.slice A5 (1 + fa.length) c5) = w11 := ⟨_, rfl⟩
      rw [hw11]
      have ga := (BoxR.keep hb10 ⟨q1, q2, q3, q4, q5⟩).set_far (g := gp) (o := 1) (v := .slice A5 (1 + fa.length) c5) (by omega)
      have gb := (gb4.keep hb10).set_far (g := gp) (o := 1) (v := .slice A5 (1 + fa.length) c5) (by omega)
      have bq := (bq4.keep hb10).set_far (g := gp) (o := 1) (v := .slice A5 (1 + fa.length) c5) (by omega)
      have bp := (BoxR.keep hb10 ⟨s1, s2, s3, s4, s5⟩).set1 (A' := A5) (n' := 1 + fa.length) (c' := c5)
      have hB11 : Below w.heap.size w (w10.setCell ⟨gp, 1, none⟩ (.slice A5 (1 + fa.length) c5)) := Below.setCell (hB9.trans (hb10.mono hB9.size)) (by show w.heap.size ≤ gp; omega) _
      have rp := ownsRow_setCell_below hown (a := ⟨gp, 1, none⟩) (by exact s1) (.slice A5 (1 + fa.length) c5)
      rw [show [Value.int .u8 1] ++ bv fa = bv (1 :: fa) from bv_cons 1 fa] at rp
      rw [hw11] at ga gb bq bp hB11 rp
      have hq4 := bq4.1
      clear hw11 gb4 bq4 hx9 hy9 q1 q2 q3 q4 q5 s1 s2 s3 s4 s5 hB9 hb10 hgrow hrow hown s3' s5'
      obtain ⟨q1, q2, q3, q4, q5⟩ := gb
      obtain ⟨s1, s2, s3, s4, s5⟩ := bq
      have hy11 := Rd.via hB11 hy hB
      have hz11 := hB11.size
      go_upto_region 12 with (at_builtin; refine wpList_append_rd _ (by rfl) _ _ _ (by rfl) w11.heap.size 5 i0 (.int .u8 0) 1 Try.underlying22 hi hz0 hz1 hz2 (by rfl) (.slice (some ⟨w11.heap.size, 0, none⟩) 1 1) 1 [.int .u8 1] (by rfl) (World.ownsRow_lit w11 #[.int .u8 1] 1 (Nat.le_refl _) (by unfold maxLen; omega) (by rfl)) (B := B) A2 tb.length c2 (bv tb) (by rfl) (by exact Rd.via ((Below.refl _ _).alloc (Nat.le_refl _) _) hy11 (Nat.le_trans hB hz11)) (bv_len tb) (bv_one tb) (by unfold maxLen; omega) (by omega) (by simp) ?_; intro v6 w12 hown hgrow hrow; have hb12 : Below w11.heap.size w11 w12 := Below.grown ((Below.refl _ _).alloc (Nat.le_refl _) _) hgrow (by simp) hrow; obtain ⟨A6, c6, rfl, he1, he2⟩ := own_slice hown; have s3' := (hb12.cell (p := ⟨gq, 1, none⟩) s1).trans s3; have s5' := (hb12.frozen (p := ⟨gq, 1, none⟩) s1).trans s5)
      obtain ⟨w13, hw13⟩ : ∃ w13, w12.setCell ⟨gq, 1, none⟩ (.slice A6 (1 + tb.length) c6) = w13 := ⟨_, rfl⟩
      rw [hw13]
      replace ga := (ga.keep hb12).set_far (g := gq) (o := 1) (v := .slice A6 (1 + tb.length) c6) (by omega)
      replace bp := (bp.keep hb12).set_far (g := gq) (o := 1) (v := .slice A6 (1 + tb.length) c6) (by omega)
      have bq := (BoxR.keep hb12 ⟨s1, s2, s3, s4, s5⟩).set1 (A' := A6) (n' := 1 + tb.length) (c' := c6)
      have hB13 : Below w.heap.size w (w12.setCell ⟨gq, 1, none⟩ (.slice A6 (1 + tb.length) c6)) := Below.setCell (hB11.trans (hb12.mono hB11.size)) (by show w.heap.size ≤ gq; omega) _
      have rq := Rd.of_own (ownsRow_setCell_below hown (a := ⟨gq, 1, none⟩) (by exact s1) (.slice A6 (1 + tb.length) c6))
      rw [show [Value.int .u8 1] ++ bv tb = bv (1 :: tb) from bv_cons 1 tb] at rq
      have rp13 := Rd.of_own (ownsRow_setCell_below (own_below rp hb12 (own_lt rp)) (a := ⟨gq, 1, none⟩) (by exact hq4) (.slice A6 (1 + tb.length) c6))
      rw [hw13] at ga bp bq hB13 rq rp13
      clear hw13 rp hq4 q1 q2 q3 q4 q5 s1 s2 s3 s4 s5 hB11 hb12 hgrow hrow hown s3' s5' hy11 hz11 hgpq hgp hgq hgp'
      have hx13 := (Rd.via hB13 hx hB).mono (Nat.le_trans hB hB13.size)
      have S8 : ∀ {W : World}, Below w13.heap.size w13 W → W.cell? ⟨gp, 0, none⟩ = some (.string na) ∧ W.cell? ⟨gp, 1, none⟩ = some (.slice A5 (1 + fa.length) c5) ∧ W.cell? ⟨gq, 0, none⟩ = some (.string nb) ∧ W.cell? ⟨gq, 1, none⟩ = some (.slice A6 (1 + tb.length) c6) ∧ W.cell? ⟨w.heap.size, 0, none⟩ = some (.string na) ∧ W.cell? ⟨w.heap.size, 1, none⟩ = some (.slice A fa.length c) :=
        fun h => ⟨(bp.keep h).2.1, (bp.keep h).2.2.1, (bq.keep h).2.1, (bq.keep h).2.2.1, (ga.keep h).2.1, (ga.keep h).2.2.1⟩
      have hD0 : Below w13.heap.size w13 w13.drew := (Below.refl _ _).drew
      have hS0 := S8 hD0
      have nf : (1 :: fa).length = 1 + fa.length := by simp; omega
      have nt : (1 :: tb).length = 1 + tb.length := by simp; omega
      have c1 : ∀ W, Below w13.heap.size w13 W → Calls Try.prog 9 #[.agg #[.string na, .slice A5 (1 + fa.length) c5], .agg #[.string nb, .slice A6 (1 + tb.length) c6]] W fun e w' => e = .returned (.bool F) ∧ Below W.heap.size W w' := fun W h => by
        have := fits_any na nb (1 :: fa) (1 :: tb) A5 A6 c5 c6 W w13.heap.size (Rd.via h rp13 (Nat.le_refl _)) (Rd.via h rq (Nat.le_refl _)) h.size (by rw [nf]; exact hd1) hd2 (by rw [nt]; exact he1) he2
        rw [fits_one, HF.out, nf, nt] at this
        exact this
      have c3' : ∀ W, Below w13.heap.size w13 W → Calls Try.prog 12 #[.agg #[.string na, .slice A5 (1 + fa.length) c5]] W fun e w' => ∃ A' c', e = .returned (.agg #[.string na, .slice A' fa.length c']) ∧ Rd w' w'.heap.size A' (bv fa) ∧ Below W.heap.size W w' := fun W h => by
        have := bare_any na A5 c5 (1 :: fa) W (Rd.via h rp13 (Nat.le_refl _)) h.size (by rw [nf]; exact hd1) hd2 (by rw [nf]; omega)
        rw [bare_one, nf] at this
        exact this.mono fun e w' ⟨A', c', he, ho, hb⟩ => ⟨A', c', he, Rd.of_own ho, hb⟩
      have c4 : ∀ (W : World) Z cz, Below w13.heap.size w13 W → Rd W W.heap.size Z (bv fa) → Calls Try.prog 11 #[.agg #[.string na, .slice Z fa.length cz], .agg #[.string na, .slice A fa.length c]] W fun e w' => e = .returned (.bool true) ∧ Below W.heap.size W w' := fun W Z cz h hz => by
        have := same_any na na Z A cz c fa fa W hz ((Rd.via h hx13 (Nat.le_refl _)).mono h.size) (Nat.le_refl _)
        simpa using this
      have c5' : ∀ W, Below w13.heap.size w13 W → Calls Try.prog 9 #[.agg #[.string na, .slice A fa.length c], .agg #[.string na, .slice A fa.length c]] W fun e w' => e = .returned (.bool (fits na na fa fa)) ∧ Below W.heap.size W w' := fun W h =>
        fits_any na na fa fa A A c c W w13.heap.size (Rd.via h hx13 (Nat.le_refl _)) (Rd.via h hx13 (Nat.le_refl _)) h.size hc hm hc hm
      have c6' : ∀ W, Below w13.heap.size w13 W → fits na na fa fa = true → Calls Try.prog 9 #[.agg #[.string na, .slice A5 (1 + fa.length) c5], .agg #[.string na, .slice A fa.length c]] W fun e w' => e = .returned (.bool true) ∧ Below W.heap.size W w' := fun W h hR => by
        have := fits_any na na (1 :: fa) fa A5 A c5 c W w13.heap.size (Rd.via h rp13 (Nat.le_refl _)) (Rd.via h hx13 (Nat.le_refl _)) h.size (by rw [nf]; exact hd1) hd2 hc hm
        rw [fits_more na fa hR, nf] at this
        exact this
      clear nf nt
      go_region_held3 (fun W => W.cell? ⟨gp, 0, none⟩ = some (.string na) ∧ W.cell? ⟨gp, 1, none⟩ = some (.slice A5 (1 + fa.length) c5) ∧ W.cell? ⟨gq, 0, none⟩ = some (.string nb) ∧ W.cell? ⟨gq, 1, none⟩ = some (.slice A6 (1 + tb.length) c6) ∧ W.cell? ⟨w.heap.size, 0, none⟩ = some (.string na) ∧ W.cell? ⟨w.heap.size, 1, none⟩ = some (.slice A fa.length c)) (first | exact hS0 | exact hS1 | exact hS2 | exact hS3)
        (first
          | (go_at_call 12; (with_reducible refine (c3' _ ?_).mono ?_); exact hD0; rintro e X1 ⟨Z, cz, rfl, hz, hb9⟩; have hD1 : Below w13.heap.size w13 X1 := hD0.trans (hb9.mono hD0.size); have hS1 := S8 hD1)
          | (go_at_call 11; (with_reducible refine (c4 _ Z cz ?_ ?_).mono ?_); exact hD1; exact hz; rintro e X2 ⟨rfl, hb9⟩; have hD2 : Below w13.heap.size w13 X2 := hD1.trans (hb9.mono hD1.size); have hS2 := S8 hD2)
          | (go_at_call 9; (with_reducible refine (c1 _ ?_).mono ?_); exact hD2; rintro e X3 ⟨rfl, hb9⟩; have hD3 : Below w13.heap.size w13 X3 := hD2.trans (hb9.mono hD2.size); have hS3 := S8 hD3))
      obtain ⟨t1, t2, t3, t4, t5, t6⟩ := S8 hD3
      have hm1'' := hD3.size
      go_upto_region 14 with fail
      have k5 := c5' _ hD3
      have k6 := c6'
      clear c5' c6' c1 c3' c4 t3 t4
      by_cases hR : fits na na fa fa = true
      · rw [hR] at k5
        have k7 := fun W h => k6 W h hR
        clear k6 hR
        go_wp2_with fail
        refine k5.mono ?_
        rintro e X4 ⟨rfl, hb10⟩
        have hD4 := hD3.trans (hb10.mono hD3.size)
        obtain ⟨r1, r2, r3, r4, r5, r6⟩ := S8 hD4
        go_wp2_with fail
        refine (k7 _ hD4).mono ?_
        rintro e X5 ⟨rfl, hb11⟩
        go_wp2
        go_ret
        exact ⟨rfl, hB13.trans ((hD4.trans (hb11.mono hD4.size)).mono hB13.size)⟩
      · rw [Bool.not_eq_true] at hR
        rw [hR] at k5
        clear k6 hR
        go_wp2_with fail
        refine k5.mono ?_
        rintro e X4 ⟨rfl, hb10⟩
        go_wp2
        go_ret
        exact ⟨rfl, hB13.trans ((hD3.trans (hb10.mono hD3.size)).mono hB13.size)⟩
set_option maxHeartbeats 2000000 in
set_option maxRecDepth 100000 in
theorem walk_big (na nb : ByteArray) (A A2 : Option Addr) (c c2 : Nat) (n m : Nat) (w : World) (h : 20 < n ∨ 20 < m) :
    Calls Try.prog 3 #[.agg #[.string na, .slice A n c], .agg #[.string nb, .slice A2 m c2]] w fun e w' => e = .returned (.bool true) ∧ Below w.heap.size w w' := by
  have hb0 : Below w.heap.size w ((w.alloc (.cells #[.string na, .slice A n c] 24)).alloc (.cells #[.string nb, .slice A2 m c2] 24)) := ((Below.refl _ _).alloc (Nat.le_refl _) _).alloc (by simp) _
  by_cases h1 : (20 : Int) < n
  · have hd : decide ((20 : Int) < n) = true := by simpa using h1
    go_enter Try.func3, Try.ntmps3
    go_wp2_with fail
    refine (alive_any _).mono ?_
    rintro e w1 ⟨rfl, hb1⟩
    obtain ⟨⟨e0, e1, e2, e3⟩, z0, z1, z2, z3⟩ := boxes hb1
    go_wp2
    go_ret
    exact ⟨rfl, hb0.trans (hb1.mono hb0.size)⟩
  · have h2 : (20 : Int) < m := by omega
    have hd : decide ((20 : Int) < n) = false := by simpa using h1
    have hd2 : decide ((20 : Int) < m) = true := by simpa using h2
    go_enter Try.func3, Try.ntmps3
    go_wp2_with fail
    refine (alive_any _).mono ?_
    rintro e w1 ⟨rfl, hb1⟩
    obtain ⟨⟨e0, e1, e2, e3⟩, z0, z1, z2, z3⟩ := boxes hb1
    go_wp2
    go_ret
    exact ⟨rfl, hb0.trans (hb1.mono hb0.size)⟩
theorem walk (na nb : ByteArray) (A A2 : Option Addr) (c c2 : Nat) (fa tb : List UInt8) (w : World) {B : Nat} (hx : Rd w B A (bv fa)) (hy : Rd w B A2 (bv tb)) (hB : B ≤ w.heap.size)
    (hc : fa.length ≤ c) (hm : c ≤ maxLen) (hc2 : tb.length ≤ c2) (hm2 : c2 ≤ maxLen) :
    Calls Try.prog 3 #[.agg #[.string na, .slice A fa.length c], .agg #[.string nb, .slice A2 tb.length c2]] w fun e w' => e = .returned (.bool true) ∧ Below w.heap.size w w' := by
  by_cases h : fa.length ≤ 20 ∧ tb.length ≤ 20
  · exact walk_small na nb A A2 c c2 fa tb w hx hy hB hc hm hc2 hm2 h.1 h.2
  · exact walk_big na nb A A2 c c2 fa.length tb.length w (by omega)
open Go.ChangeShapes Go.WideShapes Go.ChangeAt
open Go.ChangeMaps (open_string shut_string)
theorem own : ownKnob Try.prog.godebug = none := by kernel_rfl
theorem laidOut : laidOutB Try.prog = true := by kernel_rfl
set_option maxRecDepth 100000 in
theorem lifted (os : Os) (started : os.Started) (H : Type) (enc : TypeId × Value → H) :
    ReturnsInHanded {} Try.checked os 3 .any (Rows.kindWrapsSpec.pre6 enc Try.prog Try.f3 Rows.kindWrapsRow.domain false) (Rows.kindWrapsSpec.post enc Try.prog Try.f3 false true false false) := by
  refine returnsInHanded_of_change_shaped (C := Try.checked) own started (by kernel_rfl) Try.func3
    (ChangeSpec.witness6 (enc := enc) (C := Try.checked) false ⟨#[], #[.agg #[.string ⟨#[]⟩, .slice none 0 0], .agg #[.string ⟨#[]⟩, .slice none 0 0]], []⟩ 8 (by kernel_rfl) (by kernel_rfl) (by kernel_rfl) (by kernel_rfl)) ?_
  intro W base args ds gs before hval0 hW _ hsz0 hsh0 _
  have hsh : W.ShapedOpen Try.prog := hsh0
  have hsz : (DataW.weightsEach Try.prog (Try.f3.params.toList ++ Rows.kindWrapsSpec.plain.varTypes Try.prog) (ds ++ gs)).all (· ≤ reachBytes) = true := hsz0
  clear hsz0 hsh0
  have hval : ∀ (j : Nat) t v, Try.f3.params[j]? = some t → args[j]? = some v → Value.okWide Try.prog W .any base t v := hval0
  have hW' := hW
  obtain ⟨p, q, hA0, hV, rfl, hfz, hnd⟩ := hW
  have hA : DataW.TrodAll enc Try.prog W 0 (fun _ => true) true Try.f3.params.toList args.toList ds p := hA0
  rw [Try.params3] at hA hval hsz
  have hlt0 : ∀ x ∈ p, x.block < W.heap.size := fun x hx => hW'.lt x (by simp [hx])
  obtain ⟨v0, vs0, d0, ds0, p0, q0, hargs, rfl, rfl, h0, r0⟩ := trodAll_cons hA
  obtain ⟨v1, vs1, d1, ds1, p1, q1, rfl, rfl, rfl, h1, r1⟩ := trodAll_cons r0
  obtain ⟨rfl, rfl, rfl⟩ := trodAll_nil r1
  obtain rfl : args = #[v0, v1] := by cases args; simp_all
  obtain ⟨rfl, rfl⟩ := trodVars_none hV
  obtain ⟨nma, Aa, ca, a, rfl, ha, la, ma⟩ := open_ref (hval 0 24 v0 rfl rfl) h0
  obtain ⟨nmb, Ab, cb, b, rfl, hb, lb, mb⟩ := open_ref (hval 1 24 v1 rfl rfl) h1
  clear hA0 hval0
  refine (walk nma nmb Aa Ab ca cb a b W ha hb (Nat.le_refl _) la ma lb mb).mono fun e W' ⟨he, hb⟩ => ⟨_, he, ?_⟩
  exact law_post laidOut (of_decide_eq_true (by kernel_rfl)) rfl rfl Try.underlying4 (fun ds hl => by
    match ds, hl with
    | [_, _], _ => rfl) hW' hb

theorem proved : Rows.KindWrapsSaid :=
  OpenClaim.holds_of_wide 3 Try.f3 rfl rfl rfl rfl rfl rfl rfl ⟨rfl, rfl, rfl, rfl, rfl⟩ rfl rfl rfl rfl rfl (by kernel_rfl) Try.func3 (by kernel_rfl)
    (of_decide_eq_true (by kernel_rfl)) (by unfold Func.isWrapper; first | (rw [if_pos (by decide +kernel)]; kernel_rfl) | (rw [if_neg (by decide +kernel)]; exact ⟨rfl, rfl⟩))
    (fun os started H enc _ => lifted os started H enc)
end Go.Proofs.Ytgoecnhkmfnenaa.kindWraps
