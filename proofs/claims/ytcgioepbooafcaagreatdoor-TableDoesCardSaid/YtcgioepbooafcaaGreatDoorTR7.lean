/- The reference's May: whether a table may be. Conditions: lengths within the model's. -/
import Derived.Test.YtcgioepbooafcaaGreatDoorMR2
import Derived.Deep.DeepCutAuto
namespace Go.Proofs.YtcgioepbooafcaaGreatDoor
open Go.RowKit
theorem RTab.rowsAt {w : World} {B : Nat} {t : TabC} {Au Ar : Option Addr} (h : RTab w B t Au Ar) (hn : 0 < t.rows.length) :
    ∃ b off, Ar = some ⟨b, off, none⟩ ∧ ∀ W, Below w.heap.size w W → ∀ k (hk : k < t.rows.length), ∃ A' c, W.cell? ⟨b, off + k * 2, none⟩ = some (.string t.rows[k].id) ∧ W.cell? ⟨b, off + k * 2 + 1, none⟩ = some (.slice A' t.rows[k].data.length c) ∧ RRec W B t.rows[k] A' c := by
  obtain ⟨b, off, _, _, rfl, hb, _⟩ := h.row hn
  refine ⟨b, off, rfl, fun W q k hk => ?_⟩
  obtain ⟨b', off', A', c, e, _, h0, h1, hr⟩ := h.row hk
  simp only [Option.some.injEq, Addr.mk.injEq, and_true] at e
  obtain ⟨rfl, rfl⟩ := e
  exact ⟨A', c, (q.cell (p := ⟨b, off + k * 2, none⟩) hb).trans h0, (q.cell (p := ⟨b, off + k * 2 + 1, none⟩) hb).trans h1, hr.below q⟩
def prevLt (t : TabC) (k : Nat) (h : k < t.rows.length) : Prop := ∀ _ : 0 < k, slt (t.rows[k - 1]'(by omega)).id t.rows[k].id = true
theorem prevLt_iff {t : TabC} {m k : Nat} (hm : m + 1 = k) (hk : k < t.rows.length) : prevLt t k hk ↔ slt (t.rows[m]'(by omega)).id t.rows[k].id = true := by
  subst hm
  unfold prevLt
  exact ⟨fun h => h (by omega), fun h _ => h⟩
set_option maxRecDepth 100000 in
set_option maxHeartbeats 16000000 in
theorem rmay_any (t : TabC) (Au : Option Addr) (cu : Nat) (Ar : Option Addr) (cr : Nat) (w : World) {B : Nat} (h : RTab w B t Au Ar) :
    Calls Tryz.prog 26 #[.agg #[.string t.name, .int .i64 t.most, .slice Au t.us.length cu, .slice Ar t.rows.length cr]] w fun e w' => e = .returned (.bool (mayT t)) ∧ Below w.heap.size w w' := by
  obtain ⟨W1, hW1⟩ : ∃ W1, W1 = w.alloc (.cells #[.string t.name, .int .i64 t.most, .slice Au t.us.length cu, .slice Ar t.rows.length cr] 25) := ⟨_, rfl⟩
  have hb1 : Below w.heap.size w W1 := by rw [hW1]; exact (Below.refl _ _).alloc (Nat.le_refl _) _
  have kT : ∀ W, Below W1.heap.size W1 W → Four W w.heap.size (.string t.name) (.int .i64 t.most) (.slice Au t.us.length cu) (.slice Ar t.rows.length cr) := fun W q => box_tab w t Au cu Ar cr hW1 q
  have dW : ∀ W, Below W1.heap.size W1 W → Below w.heap.size w W := fun W q => hb1.trans (q.mono hb1.size)
  obtain ⟨V, hV⟩ : ∃ V, mayT t = V := ⟨_, rfl⟩
  have hq := mayQ_iff t
  rw [hV] at hq ⊢
  have HQ := Lib.hid hq
  have no : ¬ MayQ t → V = false := fun hn => by
    cases V with
    | false => rfl
    | true => exact absurd (hq.1 rfl) hn
  have NO := Lib.hid no
  have KT := Lib.hid kT
  have DW := Lib.hid dW
  have HH := Lib.hid h
  have HW1 := Lib.hid hW1
  have hul := h.ul
  have hrl := h.rl
  obtain ⟨f0, f1, f2, f3, _⟩ := kT W1 (Below.refl _ _)
  have z1 := Below.refl W1.heap.size W1
  clear h kT dW hb1 hV hq no hW1
  by_cases h1 : t.most < 1
  · obtain rfl : V = false := NO.out fun q => by have := q.1; omega
    go_enter Tryz.func26, Tryz.ntmps26
    go_wp2
    rw [← HW1.out]
    go_ret
    exact ⟨rfl, DW.out _ z1⟩
  by_cases h2 : 64 < t.most
  · obtain rfl : V = false := NO.out fun q => by have := q.2.1; omega
    go_enter Tryz.func26, Tryz.ntmps26
    go_wp2
    rw [← HW1.out]
    go_ret
    exact ⟨rfl, DW.out _ z1⟩
  by_cases h3 : t.most < t.rows.length
  · obtain rfl : V = false := NO.out fun q => by have := q.2.2.1; omega
    go_enter Tryz.func26, Tryz.ntmps26
    go_wp2
    rw [← HW1.out]
    go_ret
    exact ⟨rfl, DW.out _ z1⟩
  go_enter Tryz.func26, Tryz.ntmps26
  go_wp2
  rw [← HW1.out]
  go_loopw [3] (fun i wr => ∃ k : Nat, ∃ _ : k ≤ t.us.length, i = .int .i64 k ∧ (∀ a (h : a < k) b (hb : b < a), t.us[a] ≠ t.us[b]) ∧ Below W1.heap.size W1 wr) (fun i _ => t.us.length - (intOf i).toNat)
  case atStart => exact ⟨0, Nat.zero_le _, rfl, fun a h => by omega, z1⟩
  case round =>
    obtain ⟨k, hk, rfl, hj, hbr⟩ := hrel
    have HJ := Lib.hid hj
    clear hj f0 f1 f2 f3
    obtain ⟨wo, hwo⟩ : ∃ wo : World, wo = wr := ⟨_, rfl⟩
    rw [← hwo] at hbr ⊢
    clear hwo
    obtain ⟨_, _, f2, f3, _⟩ := KT.out wo hbr
    by_cases hlt : k < t.us.length
    · have hlI : (k : Int) < t.us.length := by omega
      have hst : ∃ b off, Au = some ⟨b, off, none⟩ ∧ ∀ W, Below W1.heap.size W1 W → ∀ (j : Nat) (h : j < t.us.length), W.cell? ⟨b, off + j, none⟩ = some (.string t.us[j]) := by
        obtain ⟨b, off, e, hbl, hc⟩ := HH.out.us.str hlt
        exact ⟨b, off, e, fun W q j hj => ((DW.out W q).cell (p := ⟨b, off + j, none⟩) (by have := HH.out.le; show b < w.heap.size; omega)).trans (hc j hj)⟩
      obtain ⟨b, off, rfl, hst⟩ := hst
      have HST := Lib.hid hst
      have ck := hst wo hbr k hlt
      obtain ⟨X, hX⟩ : ∃ X, t.us[k] = X := ⟨_, rfl⟩
      rw [hX] at ck
      have HX := Lib.hid hX
      clear hst hX
      go_wp2
      go_loopw [4] (fun i wq => ∃ j : Nat, ∃ _ : j ≤ k, i = .int .i64 j ∧ (∀ b (hb : b < j), X ≠ t.us[b]) ∧ Below wo.heap.size wo wq) (fun i _ => k - (intOf i).toNat)
      case atStart => exact ⟨0, Nat.zero_le _, rfl, fun b hb => by omega, Below.refl _ _⟩
      case round =>
        obtain ⟨j, hj, rfl, hn, hbq⟩ := hrel
        have HN := Lib.hid hn
        have hbw := hbr.trans (hbq.mono hbr.size)
        clear hn f2 f3 ck
        obtain ⟨wp, hwp⟩ : ∃ wp : World, wp = wr := ⟨_, rfl⟩
        rw [← hwp] at hbq hbw ⊢
        clear hwp
        obtain ⟨_, _, f2, f3, _⟩ := KT.out wp hbw
        by_cases hjk : j < k
        · have hjl : j < t.us.length := by omega
          have hjI : (j : Int) < t.us.length := by omega
          have ck := HST.out wp hbw k hlt
          have cj := HST.out wp hbw j hjl
          rw [HX.out] at ck
          obtain ⟨Y, hY⟩ : ∃ Y, t.us[j] = Y := ⟨_, rfl⟩
          rw [hY] at cj
          have HY := Lib.hid hY
          have hbe : (X.toList == Y.toList) = decide (X = Y) := ba_beq ..
          obtain ⟨D, hD⟩ : ∃ D, decide (X = Y) = D := ⟨_, rfl⟩
          rw [hD] at hbe
          have HD := Lib.hid hD
          clear hY hD
          cases D with
          | true =>
            obtain rfl : V = false := NO.out fun q => q.2.2.2.1 k hlt j hjk (by rw [HX.out, HY.out]; exact of_decide_eq_true HD.out)
            go_wp2
            first | go_quiet (fail) | fail
            go_wp2
            go_ret
            exact ⟨rfl, (DW.out _ hbw).drewN' _⟩
          | false =>
            go_wp2
            first | go_quiet (fail) | fail
            go_wp2
            refine ⟨⟨j + 1, hjk, by go_num, fun b hb => ?_, hbq.drewN' _⟩, by simp [intOf]; omega⟩
            rcases Nat.lt_or_ge b j with g | g
            · exact HN.out b g
            · obtain rfl : b = j := by omega
              rw [HY.out]
              exact of_decide_eq_false HD.out
        · obtain rfl : j = k := by omega
          go_wp2
          go_roundw
          case rel =>
            refine ⟨j + 1, hlt, by go_num, fun a ha b hb => ?_, hbw⟩
            rcases Nat.lt_or_ge a j with g | g
            · exact HJ.out a g b hb
            · obtain rfl : a = j := by omega
              rw [HX.out]
              exact HN.out b hb
          case measure => simp [intOf]; omega
    · obtain rfl : k = t.us.length := by omega
      have hQ1 : ∀ i (h : i < t.us.length) k (hk : k < i), t.us[i] ≠ t.us[k]'(by omega) := fun i h k hk => HJ.out i h k hk
      have HQ1 := Lib.hid hQ1
      clear hQ1
      have hdu : decide (t.us.length < t.us.length) = false := by simp
      go_wp2
      go_loopw [5] (fun i wr => ∃ k : Nat, ∃ _ : k ≤ t.rows.length, i = .int .i64 k ∧ (∀ a (h : a < k), goodAt t a (by omega)) ∧ Below W1.heap.size W1 wr) (fun i _ => t.rows.length - (intOf i).toNat)
      case atStart => exact ⟨0, Nat.zero_le _, rfl, fun a h => by omega, hbr⟩
      case round =>
        clear f2 f3 hbr
        obtain ⟨k, hk, rfl, hg, hbr⟩ := hrel
        have HG := Lib.hid hg
        clear hg
        obtain ⟨wo, hwo⟩ : ∃ wo : World, wo = wr := ⟨_, rfl⟩
        rw [← hwo] at hbr ⊢
        clear hwo
        obtain ⟨_, _, f2, f3, _⟩ := KT.out wo hbr
        by_cases hlt : k < t.rows.length
        · have hlI : (k : Int) < t.rows.length := by omega
          obtain ⟨b, off, rfl, hrw⟩ := HH.out.rowsAt (by omega)
          have HRW := Lib.hid hrw
          obtain ⟨A2, c2, r20, r21, rr2⟩ := hrw wo (DW.out wo hbr) k hlt
          have k1 := fun W (q : Below wo.heap.size wo W) => rone_any t.rows[k] A2 c2 W (rr2.below q).inn
          obtain ⟨O, hO⟩ : ∃ O, oneR t.rows[k] = O := ⟨_, rfl⟩
          simp only [hO] at k1
          have HO := Lib.hid hO
          obtain ⟨x, hx⟩ : ∃ x, t.rows[k] = x := ⟨_, rfl⟩
          rw [hx] at r20 r21
          simp only [hx] at k1
          have HX := Lib.hid hx
          have hbb : b < wo.heap.size := World.block_lt_of_cell? _ ⟨b, off + k * 2, none⟩ r20
          have kF : ∀ W, Below wo.heap.size wo W → W.cell? ⟨w.heap.size, 3, none⟩ = some (.slice (some ⟨b, off, none⟩) t.rows.length cr) ∧ W.cell? ⟨b, off + k * 2, none⟩ = some (.string x.id) ∧ W.cell? ⟨b, off + k * 2 + 1, none⟩ = some (.slice A2 x.data.length c2) := fun W q =>
            ⟨(KT.out W (hbr.trans (q.mono hbr.size))).c3, (q.cell (p := ⟨b, off + k * 2, none⟩) hbb).trans r20, (q.cell (p := ⟨b, off + k * 2 + 1, none⟩) hbb).trans r21⟩
          have K1 := Lib.hid k1
          have KF := Lib.hid kF
          clear hrw rr2 k1 kF hO hx
          cases O with
          | false =>
            obtain rfl : V = false := NO.out fun q => by
              have := (q.2.2.2.2 k hlt).1
              rw [HO.out] at this
              cases this
            go_wp2
            refine wp_region_held_drew (S := fun W => W.cell? ⟨w.heap.size, 3, none⟩ = some (.slice (some ⟨b, off, none⟩) t.rows.length cr) ∧ W.cell? ⟨b, off + k * 2, none⟩ = some (.string x.id) ∧ W.cell? ⟨b, off + k * 2 + 1, none⟩ = some (.slice A2 x.data.length c2)) (by kernel_rfl) (by exact KF.out _ (by repeat (first | assumption | exact Below.refl _ _ | refine Below.drew ?_ | refine Below.alloc ?_ (by first | assumption | exact Nat.le_refl _ | omega | (simp; done) | (simp; omega)) _ | refine Below.setCell ?_ (by first | assumption | exact Nat.le_refl _ | omega | (simp; done) | (simp; omega)) _))) (fun hHeld => ?_)
            refine wpAnyH_take (i := 0) (oi := _) (v := .pointer (some ⟨w.heap.size, 3, none⟩)) rfl (by kernel_rfl) (by kernel_rfl) (by kernel_rfl) (fun _ _ _ h => h) (Or.inl ⟨by rfl, fun W _ => rfl⟩) hHeld ?_
            try simp only [Act.put, List.getElem_toArray, List.getElem_cons_zero, List.setIfInBounds_toArray, List.set_cons_zero, List.set_cons_succ]
            refine wpAnyH_take (i := 1) (oi := _) (v := .slice (some ⟨b, off, none⟩) t.rows.length cr) rfl (by kernel_rfl) (by kernel_rfl) (by kernel_rfl) (fun _ _ _ h => h) (Or.inl ⟨by rfl, by intro W hW; obtain ⟨q1, q2, q3⟩ := hW; go_simp⟩) hHeld ?_
            try simp only [Act.put, List.getElem_toArray, List.getElem_cons_zero, List.getElem_cons_succ, List.setIfInBounds_toArray, List.set_cons_zero, List.set_cons_succ]
            refine wpAnyH_take (i := 2) (oi := _) (v := .int .i64 k) rfl (by kernel_rfl) (by kernel_rfl) (by kernel_rfl) (fun _ _ _ h => h) (Or.inl ⟨by rfl, fun W _ => rfl⟩) hHeld ?_
            try simp only [Act.put, List.getElem_toArray, List.getElem_cons_zero, List.getElem_cons_succ, List.setIfInBounds_toArray, List.set_cons_zero, List.set_cons_succ]
            refine wpAnyH_take (i := 3) (oi := _) (v := .pointer (some ⟨b, off + k * 2, none⟩)) rfl (by kernel_rfl) (by kernel_rfl) (by kernel_rfl) (fun _ _ _ h => h) (Or.inl ⟨by rfl, by intro W hW; clear hW; go_simp⟩) hHeld ?_
            try simp only [Act.put, List.getElem_toArray, List.getElem_cons_zero, List.getElem_cons_succ, List.setIfInBounds_toArray, List.set_cons_zero, List.set_cons_succ]
            refine wpAnyH_take (i := 4) (oi := _) (v := .agg #[.string x.id, .slice A2 x.data.length c2]) rfl (by kernel_rfl) (by kernel_rfl) (by kernel_rfl) (fun _ _ _ h => h) (Or.inl ⟨by rfl, by intro W hW; obtain ⟨q1, q2, q3⟩ := hW; go_simp⟩) hHeld ?_
            try simp only [Act.put, List.getElem_toArray, List.getElem_cons_zero, List.getElem_cons_succ, List.setIfInBounds_toArray, List.set_cons_zero, List.set_cons_succ]
            refine wpAnyH_ready (rs := [5]) (by kernel_rfl) (by simp) ?_
            refine AllReadyH.cons (o := _) rfl (fun K hK => ?_) AllReadyH.nil
            clear hHeld
            go_simp
            refine (K1.out _ ?hq).mono ?_
            case hq => exact (by repeat (first | assumption | exact Below.refl _ _ | refine Below.drew ?_ | refine Below.alloc ?_ (by first | assumption | exact Nat.le_refl _ | omega | (simp; done) | (simp; omega)) _ | refine Below.setCell ?_ (by first | assumption | exact Nat.le_refl _ | omega | (simp; done) | (simp; omega)) _))
            rintro e w5 ⟨rfl, hb5⟩
            have hqo : Below wo.heap.size wo w5 := Below.trans (by repeat (first | assumption | exact Below.refl _ _ | refine Below.drew ?_ | refine Below.alloc ?_ (by first | assumption | exact Nat.le_refl _ | omega | (simp; done) | (simp; omega)) _ | refine Below.setCell ?_ (by first | assumption | exact Nat.le_refl _ | omega | (simp; done) | (simp; omega)) _)) (hb5.mono (by simp))
            have hq5 : Below W1.heap.size W1 w5 := hbr.trans (hqo.mono hbr.size)
            refine hK.out _ _ (by exact KF.out _ (by repeat (first | assumption | exact Below.refl _ _ | refine Below.drew ?_ | refine Below.alloc ?_ (by first | assumption | exact Nat.le_refl _ | omega | (simp; done) | (simp; omega)) _ | refine Below.setCell ?_ (by first | assumption | exact Nat.le_refl _ | omega | (simp; done) | (simp; omega)) _))) (fun hHeld => ?_)
            clear hK K
            try simp only [Act.put, List.getElem_toArray, List.getElem_cons_zero, List.getElem_cons_succ, List.setIfInBounds_toArray, List.set_cons_zero, List.set_cons_succ]
            refine wpAnyH_take (i := 6) (oi := _) (v := .bool true) rfl (by kernel_rfl) (by kernel_rfl) (by kernel_rfl) (fun _ _ _ h => h) (Or.inl ⟨by rfl, fun W _ => rfl⟩) hHeld ?_
            try simp only [Act.put, List.getElem_toArray, List.getElem_cons_zero, List.getElem_cons_succ, List.setIfInBounds_toArray, List.set_cons_zero, List.set_cons_succ]
            refine wpAnyH_take (i := 7) (oi := _) (v := .bool true) rfl (by kernel_rfl) (by kernel_rfl) (by kernel_rfl) (fun _ _ _ h => h) (Or.inl ⟨by rfl, fun W _ => rfl⟩) hHeld ?_
            try simp only [Act.put, List.getElem_toArray, List.getElem_cons_zero, List.getElem_cons_succ, List.setIfInBounds_toArray, List.set_cons_zero, List.set_cons_succ]
            refine wpAnyH_take (i := 8) (oi := _) (v := undef) rfl (by kernel_rfl) (by kernel_rfl) (by kernel_rfl) (fun _ _ _ h => h) (Or.inr ⟨by rfl, rfl⟩) hHeld ?_
            try simp only [Act.put, List.getElem_toArray, List.getElem_cons_zero, List.getElem_cons_succ, List.setIfInBounds_toArray, List.set_cons_zero, List.set_cons_succ]
            refine wpAnyH_take (i := 9) (oi := _) (v := undef) rfl (by kernel_rfl) (by kernel_rfl) (by kernel_rfl) (fun _ _ _ h => h) (Or.inr ⟨by rfl, rfl⟩) hHeld ?_
            try simp only [Act.put, List.getElem_toArray, List.getElem_cons_zero, List.getElem_cons_succ, List.setIfInBounds_toArray, List.set_cons_zero, List.set_cons_succ]
            refine wpAnyH_take (i := 10) (oi := _) (v := undef) rfl (by kernel_rfl) (by kernel_rfl) (by kernel_rfl) (fun _ _ _ h => h) (Or.inr ⟨by rfl, rfl⟩) hHeld ?_
            try simp only [Act.put, List.getElem_toArray, List.getElem_cons_zero, List.getElem_cons_succ, List.setIfInBounds_toArray, List.set_cons_zero, List.set_cons_succ]
            refine wpAnyH_take (i := 11) (oi := _) (v := undef) rfl (by kernel_rfl) (by kernel_rfl) (by kernel_rfl) (fun _ _ _ h => h) (Or.inr ⟨by rfl, rfl⟩) hHeld ?_
            try simp only [Act.put, List.getElem_toArray, List.getElem_cons_zero, List.getElem_cons_succ, List.setIfInBounds_toArray, List.set_cons_zero, List.set_cons_succ]
            refine wpAnyH_take (i := 12) (oi := _) (v := undef) rfl (by kernel_rfl) (by kernel_rfl) (by kernel_rfl) (fun _ _ _ h => h) (Or.inr ⟨by rfl, rfl⟩) hHeld ?_
            try simp only [Act.put, List.getElem_toArray, List.getElem_cons_zero, List.getElem_cons_succ, List.setIfInBounds_toArray, List.set_cons_zero, List.set_cons_succ]
            refine wpAnyH_take (i := 13) (oi := _) (v := undef) rfl (by kernel_rfl) (by kernel_rfl) (by kernel_rfl) (fun _ _ _ h => h) (Or.inr ⟨by rfl, rfl⟩) hHeld ?_
            try simp only [Act.put, List.getElem_toArray, List.getElem_cons_zero, List.getElem_cons_succ, List.setIfInBounds_toArray, List.set_cons_zero, List.set_cons_succ]
            refine wpAnyH_take (i := 14) (oi := _) (v := undef) rfl (by kernel_rfl) (by kernel_rfl) (by kernel_rfl) (fun _ _ _ h => h) (Or.inr ⟨by rfl, rfl⟩) hHeld ?_
            try simp only [Act.put, List.getElem_toArray, List.getElem_cons_zero, List.getElem_cons_succ, List.setIfInBounds_toArray, List.set_cons_zero, List.set_cons_succ]
            refine wpAnyH_take (i := 15) (oi := _) (v := undef) rfl (by kernel_rfl) (by kernel_rfl) (by kernel_rfl) (fun _ _ _ h => h) (Or.inr ⟨by rfl, rfl⟩) hHeld ?_
            try simp only [Act.put, List.getElem_toArray, List.getElem_cons_zero, List.getElem_cons_succ, List.setIfInBounds_toArray, List.set_cons_zero, List.set_cons_succ]
            refine wpAnyH_take (i := 16) (oi := _) (v := undef) rfl (by kernel_rfl) (by kernel_rfl) (by kernel_rfl) (fun _ _ _ h => h) (Or.inr ⟨by rfl, rfl⟩) hHeld ?_
            try simp only [Act.put, List.getElem_toArray, List.getElem_cons_zero, List.getElem_cons_succ, List.setIfInBounds_toArray, List.set_cons_zero, List.set_cons_succ]
            refine wpAnyH_take (i := 17) (oi := _) (v := undef) rfl (by kernel_rfl) (by kernel_rfl) (by kernel_rfl) (fun _ _ _ h => h) (Or.inr ⟨by rfl, rfl⟩) hHeld ?_
            try simp only [Act.put, List.getElem_toArray, List.getElem_cons_zero, List.getElem_cons_succ, List.setIfInBounds_toArray, List.set_cons_zero, List.set_cons_succ]
            refine wpAnyH_take (i := 18) (oi := _) (v := undef) rfl (by kernel_rfl) (by kernel_rfl) (by kernel_rfl) (fun _ _ _ h => h) (Or.inr ⟨by rfl, rfl⟩) hHeld ?_
            try simp only [Act.put, List.getElem_toArray, List.getElem_cons_zero, List.getElem_cons_succ, List.setIfInBounds_toArray, List.set_cons_zero, List.set_cons_succ]
            refine wpAnyH_take (i := 19) (oi := _) (v := undef) rfl (by kernel_rfl) (by kernel_rfl) (by kernel_rfl) (fun _ _ _ h => h) (Or.inr ⟨by rfl, rfl⟩) hHeld ?_
            try simp only [Act.put, List.getElem_toArray, List.getElem_cons_zero, List.getElem_cons_succ, List.setIfInBounds_toArray, List.set_cons_zero, List.set_cons_succ]
            refine wpAnyH_take (i := 20) (oi := _) (v := undef) rfl (by kernel_rfl) (by kernel_rfl) (by kernel_rfl) (fun _ _ _ h => h) (Or.inr ⟨by rfl, rfl⟩) hHeld ?_
            try simp only [Act.put, List.getElem_toArray, List.getElem_cons_zero, List.getElem_cons_succ, List.setIfInBounds_toArray, List.set_cons_zero, List.set_cons_succ]
            refine wpAnyH_take (i := 21) (oi := _) (v := undef) rfl (by kernel_rfl) (by kernel_rfl) (by kernel_rfl) (fun _ _ _ h => h) (Or.inr ⟨by rfl, rfl⟩) hHeld ?_
            try simp only [Act.put, List.getElem_toArray, List.getElem_cons_zero, List.getElem_cons_succ, List.setIfInBounds_toArray, List.set_cons_zero, List.set_cons_succ]
            refine wpAnyH_take (i := 22) (oi := _) (v := undef) rfl (by kernel_rfl) (by kernel_rfl) (by kernel_rfl) (fun _ _ _ h => h) (Or.inr ⟨by rfl, rfl⟩) hHeld ?_
            try simp only [Act.put, List.getElem_toArray, List.getElem_cons_zero, List.getElem_cons_succ, List.setIfInBounds_toArray, List.set_cons_zero, List.set_cons_succ]
            refine wpAnyH_take (i := 23) (oi := _) (v := undef) rfl (by kernel_rfl) (by kernel_rfl) (by kernel_rfl) (fun _ _ _ h => h) (Or.inr ⟨by rfl, rfl⟩) hHeld ?_
            try simp only [Act.put, List.getElem_toArray, List.getElem_cons_zero, List.getElem_cons_succ, List.setIfInBounds_toArray, List.set_cons_zero, List.set_cons_succ]
            refine wpAnyH_take (i := 24) (oi := _) (v := undef) rfl (by kernel_rfl) (by kernel_rfl) (by kernel_rfl) (fun _ _ _ h => h) (Or.inr ⟨by rfl, rfl⟩) hHeld ?_
            try simp only [Act.put, List.getElem_toArray, List.getElem_cons_zero, List.getElem_cons_succ, List.setIfInBounds_toArray, List.set_cons_zero, List.set_cons_succ]
            refine wpAnyH_take (i := 25) (oi := _) (v := undef) rfl (by kernel_rfl) (by kernel_rfl) (by kernel_rfl) (fun _ _ _ h => h) (Or.inr ⟨by rfl, rfl⟩) hHeld ?_
            try simp only [Act.put, List.getElem_toArray, List.getElem_cons_zero, List.getElem_cons_succ, List.setIfInBounds_toArray, List.set_cons_zero, List.set_cons_succ]
            refine wpAnyH_take (i := 26) (oi := _) (v := undef) rfl (by kernel_rfl) (by kernel_rfl) (by kernel_rfl) (fun _ _ _ h => h) (Or.inr ⟨by rfl, rfl⟩) hHeld ?_
            try simp only [Act.put, List.getElem_toArray, List.getElem_cons_zero, List.getElem_cons_succ, List.setIfInBounds_toArray, List.set_cons_zero, List.set_cons_succ]
            refine wpAnyH_take (i := 27) (oi := _) (v := .bool true) rfl (by kernel_rfl) (by kernel_rfl) (by kernel_rfl) (fun _ _ _ h => h) (Or.inl ⟨by rfl, fun W _ => rfl⟩) hHeld ?_
            try simp only [Act.put, List.getElem_toArray, List.getElem_cons_zero, List.getElem_cons_succ, List.setIfInBounds_toArray, List.set_cons_zero, List.set_cons_succ]
            refine wpAnyH_done (by kernel_rfl) ?_ _
            all_goals go_wp2
            all_goals go_ret
            all_goals exact ⟨rfl, DW.out _ hq5⟩
          | true =>
            have hmx := oneR_may HO.out
            have HMX := Lib.hid hmx
            clear hmx
            by_cases h0 : k = 0
            · have h0N : decide (0 < k) = false := by simp; omega
              have h0I : decide ((0 : Int) < (k : Int)) = false := by simp; omega
              have Hk0 := Lib.hid h0
              have HL : Hid (prevLt t k hlt) := Lib.hid (fun h => by omega)
              go_wp2
              clear h0
              refine wp_region_held_drew (S := fun W => W.cell? ⟨w.heap.size, 3, none⟩ = some (.slice (some ⟨b, off, none⟩) t.rows.length cr) ∧ W.cell? ⟨b, off + k * 2, none⟩ = some (.string x.id) ∧ W.cell? ⟨b, off + k * 2 + 1, none⟩ = some (.slice A2 x.data.length c2)) (by kernel_rfl) (by exact KF.out _ (by repeat (first | assumption | exact Below.refl _ _ | refine Below.drew ?_ | refine Below.alloc ?_ (by first | assumption | exact Nat.le_refl _ | omega | (simp; done) | (simp; omega)) _ | refine Below.setCell ?_ (by first | assumption | exact Nat.le_refl _ | omega | (simp; done) | (simp; omega)) _))) (fun hHeld => ?_)
              refine wpAnyH_take (i := 0) (oi := _) (v := .pointer (some ⟨w.heap.size, 3, none⟩)) rfl (by kernel_rfl) (by kernel_rfl) (by kernel_rfl) (fun _ _ _ h => h) (Or.inl ⟨by rfl, fun W _ => rfl⟩) hHeld ?_
              try simp only [Act.put, List.getElem_toArray, List.getElem_cons_zero, List.setIfInBounds_toArray, List.set_cons_zero, List.set_cons_succ]
              refine wpAnyH_take (i := 1) (oi := _) (v := .slice (some ⟨b, off, none⟩) t.rows.length cr) rfl (by kernel_rfl) (by kernel_rfl) (by kernel_rfl) (fun _ _ _ h => h) (Or.inl ⟨by rfl, by intro W hW; obtain ⟨q1, q2, q3⟩ := hW; go_simp⟩) hHeld ?_
              try simp only [Act.put, List.getElem_toArray, List.getElem_cons_zero, List.getElem_cons_succ, List.setIfInBounds_toArray, List.set_cons_zero, List.set_cons_succ]
              refine wpAnyH_take (i := 2) (oi := _) (v := .int .i64 k) rfl (by kernel_rfl) (by kernel_rfl) (by kernel_rfl) (fun _ _ _ h => h) (Or.inl ⟨by rfl, fun W _ => rfl⟩) hHeld ?_
              try simp only [Act.put, List.getElem_toArray, List.getElem_cons_zero, List.getElem_cons_succ, List.setIfInBounds_toArray, List.set_cons_zero, List.set_cons_succ]
              refine wpAnyH_take (i := 3) (oi := _) (v := .pointer (some ⟨b, off + k * 2, none⟩)) rfl (by kernel_rfl) (by kernel_rfl) (by kernel_rfl) (fun _ _ _ h => h) (Or.inl ⟨by rfl, by intro W hW; clear hW; go_simp⟩) hHeld ?_
              try simp only [Act.put, List.getElem_toArray, List.getElem_cons_zero, List.getElem_cons_succ, List.setIfInBounds_toArray, List.set_cons_zero, List.set_cons_succ]
              refine wpAnyH_take (i := 4) (oi := _) (v := .agg #[.string x.id, .slice A2 x.data.length c2]) rfl (by kernel_rfl) (by kernel_rfl) (by kernel_rfl) (fun _ _ _ h => h) (Or.inl ⟨by rfl, by intro W hW; obtain ⟨q1, q2, q3⟩ := hW; go_simp⟩) hHeld ?_
              try simp only [Act.put, List.getElem_toArray, List.getElem_cons_zero, List.getElem_cons_succ, List.setIfInBounds_toArray, List.set_cons_zero, List.set_cons_succ]
              refine wpAnyH_ready (rs := [5]) (by kernel_rfl) (by simp) ?_
              refine AllReadyH.cons (o := _) rfl (fun K hK => ?_) AllReadyH.nil
              clear hHeld
              go_simp
              refine (K1.out _ ?hq).mono ?_
              case hq => exact (by repeat (first | assumption | exact Below.refl _ _ | refine Below.drew ?_ | refine Below.alloc ?_ (by first | assumption | exact Nat.le_refl _ | omega | (simp; done) | (simp; omega)) _ | refine Below.setCell ?_ (by first | assumption | exact Nat.le_refl _ | omega | (simp; done) | (simp; omega)) _))
              rintro e w5 ⟨rfl, hb5⟩
              have hqo : Below wo.heap.size wo w5 := Below.trans (by repeat (first | assumption | exact Below.refl _ _ | refine Below.drew ?_ | refine Below.alloc ?_ (by first | assumption | exact Nat.le_refl _ | omega | (simp; done) | (simp; omega)) _ | refine Below.setCell ?_ (by first | assumption | exact Nat.le_refl _ | omega | (simp; done) | (simp; omega)) _)) (hb5.mono (by simp))
              have hq5 : Below W1.heap.size W1 w5 := hbr.trans (hqo.mono hbr.size)
              refine hK.out _ _ (by exact KF.out _ (by repeat (first | assumption | exact Below.refl _ _ | refine Below.drew ?_ | refine Below.alloc ?_ (by first | assumption | exact Nat.le_refl _ | omega | (simp; done) | (simp; omega)) _ | refine Below.setCell ?_ (by first | assumption | exact Nat.le_refl _ | omega | (simp; done) | (simp; omega)) _))) (fun hHeld => ?_)
              clear hK K
              try simp only [Act.put, List.getElem_toArray, List.getElem_cons_zero, List.getElem_cons_succ, List.setIfInBounds_toArray, List.set_cons_zero, List.set_cons_succ]
              refine wpAnyH_take (i := 6) (oi := _) (v := .bool false) rfl (by kernel_rfl) (by kernel_rfl) (by kernel_rfl) (fun _ _ _ h => h) (Or.inl ⟨by rfl, fun W _ => rfl⟩) hHeld ?_
              try simp only [Act.put, List.getElem_toArray, List.getElem_cons_zero, List.getElem_cons_succ, List.setIfInBounds_toArray, List.set_cons_zero, List.set_cons_succ]
              refine wpAnyH_take (i := 7) (oi := _) (v := .bool false) rfl (by kernel_rfl) (by kernel_rfl) (by kernel_rfl) (fun _ _ _ h => h) (Or.inl ⟨by rfl, fun W _ => rfl⟩) hHeld ?_
              try simp only [Act.put, List.getElem_toArray, List.getElem_cons_zero, List.getElem_cons_succ, List.setIfInBounds_toArray, List.set_cons_zero, List.set_cons_succ]
              refine wpAnyH_take (i := 8) (oi := _) (v := .int .i64 k) rfl (by kernel_rfl) (by kernel_rfl) (by kernel_rfl) (fun _ _ _ h => h) (Or.inl ⟨by rfl, fun W _ => rfl⟩) hHeld ?_
              try simp only [Act.put, List.getElem_toArray, List.getElem_cons_zero, List.getElem_cons_succ, List.setIfInBounds_toArray, List.set_cons_zero, List.set_cons_succ]
              refine wpAnyH_take (i := 9) (oi := _) (v := .bool false) rfl (by kernel_rfl) (by kernel_rfl) (by kernel_rfl) (fun _ _ _ h => h) (Or.inl ⟨by rfl, by intro W hW; clear hW; go_simp⟩) hHeld ?_
              try simp only [Act.put, List.getElem_toArray, List.getElem_cons_zero, List.getElem_cons_succ, List.setIfInBounds_toArray, List.set_cons_zero, List.set_cons_succ]
              refine wpAnyH_take (i := 10) (oi := _) (v := .bool false) rfl (by kernel_rfl) (by kernel_rfl) (by kernel_rfl) (fun _ _ _ h => h) (Or.inl ⟨by rfl, fun W _ => rfl⟩) hHeld ?_
              try simp only [Act.put, List.getElem_toArray, List.getElem_cons_zero, List.getElem_cons_succ, List.setIfInBounds_toArray, List.set_cons_zero, List.set_cons_succ]
              refine wpAnyH_take (i := 11) (oi := _) (v := undef) rfl (by kernel_rfl) (by kernel_rfl) (by kernel_rfl) (fun _ _ _ h => h) (Or.inr ⟨by rfl, rfl⟩) hHeld ?_
              try simp only [Act.put, List.getElem_toArray, List.getElem_cons_zero, List.getElem_cons_succ, List.setIfInBounds_toArray, List.set_cons_zero, List.set_cons_succ]
              refine wpAnyH_take (i := 12) (oi := _) (v := undef) rfl (by kernel_rfl) (by kernel_rfl) (by kernel_rfl) (fun _ _ _ h => h) (Or.inr ⟨by rfl, rfl⟩) hHeld ?_
              try simp only [Act.put, List.getElem_toArray, List.getElem_cons_zero, List.getElem_cons_succ, List.setIfInBounds_toArray, List.set_cons_zero, List.set_cons_succ]
              refine wpAnyH_take (i := 13) (oi := _) (v := undef) rfl (by kernel_rfl) (by kernel_rfl) (by kernel_rfl) (fun _ _ _ h => h) (Or.inr ⟨by rfl, rfl⟩) hHeld ?_
              try simp only [Act.put, List.getElem_toArray, List.getElem_cons_zero, List.getElem_cons_succ, List.setIfInBounds_toArray, List.set_cons_zero, List.set_cons_succ]
              refine wpAnyH_take (i := 14) (oi := _) (v := undef) rfl (by kernel_rfl) (by kernel_rfl) (by kernel_rfl) (fun _ _ _ h => h) (Or.inr ⟨by rfl, rfl⟩) hHeld ?_
              try simp only [Act.put, List.getElem_toArray, List.getElem_cons_zero, List.getElem_cons_succ, List.setIfInBounds_toArray, List.set_cons_zero, List.set_cons_succ]
              refine wpAnyH_take (i := 15) (oi := _) (v := undef) rfl (by kernel_rfl) (by kernel_rfl) (by kernel_rfl) (fun _ _ _ h => h) (Or.inr ⟨by rfl, rfl⟩) hHeld ?_
              try simp only [Act.put, List.getElem_toArray, List.getElem_cons_zero, List.getElem_cons_succ, List.setIfInBounds_toArray, List.set_cons_zero, List.set_cons_succ]
              refine wpAnyH_take (i := 16) (oi := _) (v := undef) rfl (by kernel_rfl) (by kernel_rfl) (by kernel_rfl) (fun _ _ _ h => h) (Or.inr ⟨by rfl, rfl⟩) hHeld ?_
              try simp only [Act.put, List.getElem_toArray, List.getElem_cons_zero, List.getElem_cons_succ, List.setIfInBounds_toArray, List.set_cons_zero, List.set_cons_succ]
              refine wpAnyH_take (i := 17) (oi := _) (v := undef) rfl (by kernel_rfl) (by kernel_rfl) (by kernel_rfl) (fun _ _ _ h => h) (Or.inr ⟨by rfl, rfl⟩) hHeld ?_
              try simp only [Act.put, List.getElem_toArray, List.getElem_cons_zero, List.getElem_cons_succ, List.setIfInBounds_toArray, List.set_cons_zero, List.set_cons_succ]
              refine wpAnyH_take (i := 18) (oi := _) (v := undef) rfl (by kernel_rfl) (by kernel_rfl) (by kernel_rfl) (fun _ _ _ h => h) (Or.inr ⟨by rfl, rfl⟩) hHeld ?_
              try simp only [Act.put, List.getElem_toArray, List.getElem_cons_zero, List.getElem_cons_succ, List.setIfInBounds_toArray, List.set_cons_zero, List.set_cons_succ]
              refine wpAnyH_take (i := 19) (oi := _) (v := undef) rfl (by kernel_rfl) (by kernel_rfl) (by kernel_rfl) (fun _ _ _ h => h) (Or.inr ⟨by rfl, rfl⟩) hHeld ?_
              try simp only [Act.put, List.getElem_toArray, List.getElem_cons_zero, List.getElem_cons_succ, List.setIfInBounds_toArray, List.set_cons_zero, List.set_cons_succ]
              refine wpAnyH_take (i := 20) (oi := _) (v := undef) rfl (by kernel_rfl) (by kernel_rfl) (by kernel_rfl) (fun _ _ _ h => h) (Or.inr ⟨by rfl, rfl⟩) hHeld ?_
              try simp only [Act.put, List.getElem_toArray, List.getElem_cons_zero, List.getElem_cons_succ, List.setIfInBounds_toArray, List.set_cons_zero, List.set_cons_succ]
              refine wpAnyH_take (i := 21) (oi := _) (v := undef) rfl (by kernel_rfl) (by kernel_rfl) (by kernel_rfl) (fun _ _ _ h => h) (Or.inr ⟨by rfl, rfl⟩) hHeld ?_
              try simp only [Act.put, List.getElem_toArray, List.getElem_cons_zero, List.getElem_cons_succ, List.setIfInBounds_toArray, List.set_cons_zero, List.set_cons_succ]
              refine wpAnyH_take (i := 22) (oi := _) (v := undef) rfl (by kernel_rfl) (by kernel_rfl) (by kernel_rfl) (fun _ _ _ h => h) (Or.inr ⟨by rfl, rfl⟩) hHeld ?_
              try simp only [Act.put, List.getElem_toArray, List.getElem_cons_zero, List.getElem_cons_succ, List.setIfInBounds_toArray, List.set_cons_zero, List.set_cons_succ]
              refine wpAnyH_take (i := 23) (oi := _) (v := undef) rfl (by kernel_rfl) (by kernel_rfl) (by kernel_rfl) (fun _ _ _ h => h) (Or.inr ⟨by rfl, rfl⟩) hHeld ?_
              try simp only [Act.put, List.getElem_toArray, List.getElem_cons_zero, List.getElem_cons_succ, List.setIfInBounds_toArray, List.set_cons_zero, List.set_cons_succ]
              refine wpAnyH_take (i := 24) (oi := _) (v := undef) rfl (by kernel_rfl) (by kernel_rfl) (by kernel_rfl) (fun _ _ _ h => h) (Or.inr ⟨by rfl, rfl⟩) hHeld ?_
              try simp only [Act.put, List.getElem_toArray, List.getElem_cons_zero, List.getElem_cons_succ, List.setIfInBounds_toArray, List.set_cons_zero, List.set_cons_succ]
              refine wpAnyH_take (i := 25) (oi := _) (v := undef) rfl (by kernel_rfl) (by kernel_rfl) (by kernel_rfl) (fun _ _ _ h => h) (Or.inr ⟨by rfl, rfl⟩) hHeld ?_
              try simp only [Act.put, List.getElem_toArray, List.getElem_cons_zero, List.getElem_cons_succ, List.setIfInBounds_toArray, List.set_cons_zero, List.set_cons_succ]
              refine wpAnyH_take (i := 26) (oi := _) (v := .bool false) rfl (by kernel_rfl) (by kernel_rfl) (by kernel_rfl) (fun _ _ _ h => h) (Or.inl ⟨by rfl, fun W _ => rfl⟩) hHeld ?_
              try simp only [Act.put, List.getElem_toArray, List.getElem_cons_zero, List.getElem_cons_succ, List.setIfInBounds_toArray, List.set_cons_zero, List.set_cons_succ]
              refine wpAnyH_take (i := 27) (oi := _) (v := .bool false) rfl (by kernel_rfl) (by kernel_rfl) (by kernel_rfl) (fun _ _ _ h => h) (Or.inl ⟨by rfl, fun W _ => rfl⟩) hHeld ?_
              try simp only [Act.put, List.getElem_toArray, List.getElem_cons_zero, List.getElem_cons_succ, List.setIfInBounds_toArray, List.set_cons_zero, List.set_cons_succ]
              refine wpAnyH_done (by kernel_rfl) ?_ _
              all_goals go_wp2
              go_loopw [6] (fun i wq => ∃ j : Nat, ∃ _ : j ≤ k, i = .int .i64 j ∧ (∀ b (hb : b < j), Tb.clash ordC t.us t.rows[k] (t.rows[b]'(by omega)) = false) ∧ Below w5.heap.size w5 wq) (fun i _ => k - (intOf i).toNat)
              case atStart => exact ⟨0, Nat.zero_le _, rfl, fun b hb => by omega, (by repeat (first | assumption | exact Below.refl _ _ | refine Below.drew ?_ | refine Below.alloc ?_ (by first | assumption | exact Nat.le_refl _ | omega | (simp; done) | (simp; omega)) _ | refine Below.setCell ?_ (by first | assumption | exact Nat.le_refl _ | omega | (simp; done) | (simp; omega)) _))⟩
              case round =>
                obtain ⟨j, hj, rfl, hn, hbq⟩ := hrel
                have HN := Lib.hid hn
                have hbw := hq5.trans (hbq.mono hq5.size)
                clear hn
                obtain ⟨wp, hwp⟩ : ∃ wp : World, wp = wr := ⟨_, rfl⟩
                rw [← hwp] at hbq hbw ⊢
                clear hwp
                by_cases hjk : j < k
                · have hjl : j < t.rows.length := by omega
                  have hjI : (j : Int) < t.rows.length := by omega
                  obtain ⟨A3, c3, r30, r31, rr3⟩ := HRW.out wp (DW.out _ hbw) j hjl
                  obtain ⟨A4, c4, r40, r41, rr4⟩ := HRW.out wp (DW.out _ hbw) k hlt
                  have hm3 := oneR_may ((HG.out j hjk).1)
                  have kc := fun W (q : Below wp.heap.size wp W) => rclash_any t.us t.rows[k] t.rows[j] Au cu A4 c4 A3 c3 W (HH.out.us.thru (DW.out W (hbw.trans (q.mono hbw.size))) HH.out.le) (Nat.le_trans HH.out.le (DW.out W (hbw.trans (q.mono hbw.size))).size) HH.out.ul (rr4.below q) HMX.out (rr3.below q) hm3
                  obtain ⟨C, hC⟩ : ∃ C, Tb.clash ordC t.us t.rows[k] t.rows[j] = C := ⟨_, rfl⟩
                  simp only [hC] at kc
                  have HC := Lib.hid hC
                  obtain ⟨y, hy⟩ : ∃ y, t.rows[j] = y := ⟨_, rfl⟩
                  obtain ⟨x, hx⟩ : ∃ x, t.rows[k] = x := ⟨_, rfl⟩
                  rw [hy] at r30 r31
                  rw [hx] at r40 r41
                  simp only [hy, hx] at kc
                  have hbb4 : b < wp.heap.size := World.block_lt_of_cell? _ ⟨b, off + k * 2, none⟩ r40
                  have kF : ∀ W, Below wp.heap.size wp W → W.cell? ⟨w.heap.size, 2, none⟩ = some (.slice Au t.us.length cu) ∧ W.cell? ⟨w.heap.size, 3, none⟩ = some (.slice (some ⟨b, off, none⟩) t.rows.length cr) ∧ W.cell? ⟨b, off + k * 2, none⟩ = some (.string x.id) ∧ W.cell? ⟨b, off + k * 2 + 1, none⟩ = some (.slice A4 x.data.length c4) ∧ W.cell? ⟨b, off + j * 2, none⟩ = some (.string y.id) ∧ W.cell? ⟨b, off + j * 2 + 1, none⟩ = some (.slice A3 y.data.length c3) := fun W q => by
                    have f := KT.out W (hbw.trans (q.mono hbw.size))
                    exact ⟨f.c2, f.c3, (q.cell (p := ⟨b, off + k * 2, none⟩) hbb4).trans r40, (q.cell (p := ⟨b, off + k * 2 + 1, none⟩) hbb4).trans r41, (q.cell (p := ⟨b, off + j * 2, none⟩) hbb4).trans r30, (q.cell (p := ⟨b, off + j * 2 + 1, none⟩) hbb4).trans r31⟩
                  have KC := Lib.hid kc
                  have KF := Lib.hid kF
                  obtain ⟨f2, f3, q0, q1, q2, q3⟩ := kF wp (Below.refl _ _)
                  clear r30 r31 r40 r41 rr3 rr4 hm3 kc kF hC hy hx
                  go_wp2
                  go_region_held3 (fun W => W.cell? ⟨w.heap.size, 2, none⟩ = some (.slice Au t.us.length cu) ∧ W.cell? ⟨w.heap.size, 3, none⟩ = some (.slice (some ⟨b, off, none⟩) t.rows.length cr) ∧ W.cell? ⟨b, off + k * 2, none⟩ = some (.string x.id) ∧ W.cell? ⟨b, off + k * 2 + 1, none⟩ = some (.slice A4 x.data.length c4) ∧ W.cell? ⟨b, off + j * 2, none⟩ = some (.string y.id) ∧ W.cell? ⟨b, off + j * 2 + 1, none⟩ = some (.slice A3 y.data.length c3))
                    (exact KF.out _ (by repeat (first | assumption | exact Below.refl _ _ | refine Below.drew ?_ | refine Below.alloc ?_ (by first | assumption | exact Nat.le_refl _ | omega | (simp; done) | (simp; omega)) _ | refine Below.setCell ?_ (by first | assumption | exact Nat.le_refl _ | omega | (simp; done) | (simp; omega)) _)))
                    ((go_at_call 53; (with_reducible refine (KC.out _ ?_).mono ?_); exact (by repeat (first | assumption | exact Below.refl _ _ | refine Below.drew ?_ | refine Below.alloc ?_ (by first | assumption | exact Nat.le_refl _ | omega | (simp; done) | (simp; omega)) _ | refine Below.setCell ?_ (by first | assumption | exact Nat.le_refl _ | omega | (simp; done) | (simp; omega)) _)); rintro e w7 ⟨rfl, hb7⟩; have hp7 : Below wp.heap.size wp w7 := Below.trans (by repeat (first | assumption | exact Below.refl _ _ | refine Below.drew ?_ | refine Below.alloc ?_ (by first | assumption | exact Nat.le_refl _ | omega | (simp; done) | (simp; omega)) _ | refine Below.setCell ?_ (by first | assumption | exact Nat.le_refl _ | omega | (simp; done) | (simp; omega)) _)) (hb7.mono (by simp)); have hq7 : Below w5.heap.size w5 w7 := hbq.trans (hp7.mono hbq.size)))
                  cases C with
                  | true =>
                    obtain rfl : V = false := NO.out fun q => by
                      have := (q.2.2.2.2 k hlt).2.2 j hjk
                      rw [HC.out] at this
                      cases this
                    go_wp2
                    go_ret
                    exact ⟨rfl, DW.out _ (hq5.trans (hq7.mono hq5.size))⟩
                  | false =>
                    go_wp2
                    go_roundw
                    case rel =>
                      refine ⟨j + 1, hjk, by go_num, fun b hb => ?_, hq7⟩
                      rcases Nat.lt_or_ge b j with g | g
                      · exact HN.out b g
                      · obtain rfl : b = j := by omega
                        exact HC.out
                    case measure => simp [intOf]; omega
                · obtain rfl : j = k := by omega
                  obtain ⟨_, _, f2, f3, _⟩ := KT.out wp hbw
                  go_wp2
                  go_roundw
                  case rel =>
                    refine ⟨j + 1, hlt, by go_num, fun a ha => ?_, hbw⟩
                    rcases Nat.lt_or_ge a j with g | g
                    · exact HG.out a g
                    · obtain rfl : a = j := by omega
                      exact ⟨HO.out, HL.out, HN.out⟩
                  case measure => simp [intOf]; omega
            · have hpos : 0 < k := by omega
              have hposI : (0 : Int) < (k : Int) := by omega
              obtain ⟨m, hm⟩ : ∃ m, m + 1 = k := ⟨k - 1, by omega⟩
              have hml : m < t.rows.length := by omega
              have hmI : (m : Int) < t.rows.length := by omega
              have hmk : k - 1 = m := by omega
              have hw1 : IntKind.i64.wrap ((k : Int) - 1) = (m : Int) := by rw [IntKind.wrap_i64]; omega
              obtain ⟨A6, c6, r60, _, _⟩ := HRW.out wo (DW.out _ hbr) m hml
              obtain ⟨z, hz⟩ : ∃ z, t.rows[m] = z := ⟨_, rfl⟩
              rw [hz] at r60
              have k2 := fun W => (Ls.less_any z.id x.id W (by rw [← hz]; exact HH.out.ids _ (List.getElem_mem hml)) (by rw [← HX.out]; exact HH.out.ids _ (List.getElem_mem hlt))).mono (R' := fun e w' => e = .returned (.bool (slt z.id x.id)) ∧ Below W.heap.size W w') fun e w' hh => by
                obtain ⟨e1, n, rfl⟩ := hh
                exact ⟨e1, (Below.refl _ _).drewN' _⟩
              obtain ⟨L, hL⟩ : ∃ L, slt z.id x.id = L := ⟨_, rfl⟩
              simp only [hL] at k2
              have HLz : Hid (prevLt t k hlt ↔ L = true) := Lib.hid (by
                rw [prevLt_iff hm hlt, hz, HX.out, hL])
              have kG : ∀ W, Below wo.heap.size wo W → W.cell? ⟨w.heap.size, 3, none⟩ = some (.slice (some ⟨b, off, none⟩) t.rows.length cr) ∧ W.cell? ⟨b, off + k * 2, none⟩ = some (.string x.id) ∧ W.cell? ⟨b, off + k * 2 + 1, none⟩ = some (.slice A2 x.data.length c2) ∧ W.cell? ⟨b, off + m * 2, none⟩ = some (.string z.id) := fun W q =>
                ⟨(KF.out W q).1, (KF.out W q).2.1, (KF.out W q).2.2, (q.cell (p := ⟨b, off + m * 2, none⟩) hbb).trans r60⟩
              have KG := Lib.hid kG
              have K2 := Lib.hid k2
              obtain ⟨_, g0, g1, g2⟩ := kG wo (Below.refl _ _)
              clear hm hmk k2 kG hz hL r60 h0
              go_wp2
              go_region_held3 (fun W => W.cell? ⟨w.heap.size, 3, none⟩ = some (.slice (some ⟨b, off, none⟩) t.rows.length cr) ∧ W.cell? ⟨b, off + k * 2, none⟩ = some (.string x.id) ∧ W.cell? ⟨b, off + k * 2 + 1, none⟩ = some (.slice A2 x.data.length c2) ∧ W.cell? ⟨b, off + m * 2, none⟩ = some (.string z.id))
                (exact KG.out _ (by repeat (first | assumption | exact Below.refl _ _ | refine Below.drew ?_ | refine Below.alloc ?_ (by first | assumption | exact Nat.le_refl _ | omega | (simp; done) | (simp; omega)) _ | refine Below.setCell ?_ (by first | assumption | exact Nat.le_refl _ | omega | (simp; done) | (simp; omega)) _)))
                (first
                  | (go_at_call 32; (with_reducible refine (K1.out _ ?_).mono ?_); exact (by repeat (first | assumption | exact Below.refl _ _ | refine Below.drew ?_ | refine Below.alloc ?_ (by first | assumption | exact Nat.le_refl _ | omega | (simp; done) | (simp; omega)) _ | refine Below.setCell ?_ (by first | assumption | exact Nat.le_refl _ | omega | (simp; done) | (simp; omega)) _)); rintro e w4 ⟨rfl, hb4⟩; have hp4 : Below wo.heap.size wo w4 := Below.trans (by repeat (first | assumption | exact Below.refl _ _ | refine Below.drew ?_ | refine Below.alloc ?_ (by first | assumption | exact Nat.le_refl _ | omega | (simp; done) | (simp; omega)) _ | refine Below.setCell ?_ (by first | assumption | exact Nat.le_refl _ | omega | (simp; done) | (simp; omega)) _)) (hb4.mono (by simp)); have hq4 : Below W1.heap.size W1 w4 := hbr.trans (hp4.mono hbr.size))
                  | (go_at_call 52; (with_reducible refine (K2.out _).mono ?_); rintro e w5 ⟨rfl, hb5⟩; have hp5 : Below w4.heap.size w4 w5 := Below.trans (by repeat (first | assumption | exact Below.refl _ _ | refine Below.drew ?_ | refine Below.alloc ?_ (by first | assumption | exact Nat.le_refl _ | omega | (simp; done) | (simp; omega)) _ | refine Below.setCell ?_ (by first | assumption | exact Nat.le_refl _ | omega | (simp; done) | (simp; omega)) _)) (hb5.mono (by simp)); have hq5 : Below W1.heap.size W1 w5 := hq4.trans (hp5.mono hq4.size); have hqo : Below wo.heap.size wo w5 := hp4.trans (hp5.mono hp4.size)))
              cases L with
              | false =>
                obtain rfl : V = false := NO.out fun q => by
                  have := HLz.out.1 (q.2.2.2.2 k hlt).2.1
                  cases this
                go_wp2
                go_ret
                exact ⟨rfl, DW.out _ hq5⟩
              | true =>
                have HL : Hid (prevLt t k hlt) := Lib.hid (HLz.out.2 rfl)
                go_wp2
                go_loopw [6] (fun i wq => ∃ j : Nat, ∃ _ : j ≤ k, i = .int .i64 j ∧ (∀ b (hb : b < j), Tb.clash ordC t.us t.rows[k] (t.rows[b]'(by omega)) = false) ∧ Below w5.heap.size w5 wq) (fun i _ => k - (intOf i).toNat)
                case atStart => exact ⟨0, Nat.zero_le _, rfl, fun b hb => by omega, (by repeat (first | assumption | exact Below.refl _ _ | refine Below.drew ?_ | refine Below.alloc ?_ (by first | assumption | exact Nat.le_refl _ | omega | (simp; done) | (simp; omega)) _ | refine Below.setCell ?_ (by first | assumption | exact Nat.le_refl _ | omega | (simp; done) | (simp; omega)) _))⟩
                case round =>
                  obtain ⟨j, hj, rfl, hn, hbq⟩ := hrel
                  have HN := Lib.hid hn
                  have hbw := hq5.trans (hbq.mono hq5.size)
                  clear hn
                  obtain ⟨wp, hwp⟩ : ∃ wp : World, wp = wr := ⟨_, rfl⟩
                  rw [← hwp] at hbq hbw ⊢
                  clear hwp
                  by_cases hjk : j < k
                  · have hjl : j < t.rows.length := by omega
                    have hjI : (j : Int) < t.rows.length := by omega
                    obtain ⟨A3, c3, r30, r31, rr3⟩ := HRW.out wp (DW.out _ hbw) j hjl
                    obtain ⟨A4, c4, r40, r41, rr4⟩ := HRW.out wp (DW.out _ hbw) k hlt
                    have hm3 := oneR_may ((HG.out j hjk).1)
                    have kc := fun W (q : Below wp.heap.size wp W) => rclash_any t.us t.rows[k] t.rows[j] Au cu A4 c4 A3 c3 W (HH.out.us.thru (DW.out W (hbw.trans (q.mono hbw.size))) HH.out.le) (Nat.le_trans HH.out.le (DW.out W (hbw.trans (q.mono hbw.size))).size) HH.out.ul (rr4.below q) HMX.out (rr3.below q) hm3
                    obtain ⟨C, hC⟩ : ∃ C, Tb.clash ordC t.us t.rows[k] t.rows[j] = C := ⟨_, rfl⟩
                    simp only [hC] at kc
                    have HC := Lib.hid hC
                    obtain ⟨y, hy⟩ : ∃ y, t.rows[j] = y := ⟨_, rfl⟩
                    obtain ⟨x, hx⟩ : ∃ x, t.rows[k] = x := ⟨_, rfl⟩
                    rw [hy] at r30 r31
                    rw [hx] at r40 r41
                    simp only [hy, hx] at kc
                    have hbb4 : b < wp.heap.size := World.block_lt_of_cell? _ ⟨b, off + k * 2, none⟩ r40
                    have kF : ∀ W, Below wp.heap.size wp W → W.cell? ⟨w.heap.size, 2, none⟩ = some (.slice Au t.us.length cu) ∧ W.cell? ⟨w.heap.size, 3, none⟩ = some (.slice (some ⟨b, off, none⟩) t.rows.length cr) ∧ W.cell? ⟨b, off + k * 2, none⟩ = some (.string x.id) ∧ W.cell? ⟨b, off + k * 2 + 1, none⟩ = some (.slice A4 x.data.length c4) ∧ W.cell? ⟨b, off + j * 2, none⟩ = some (.string y.id) ∧ W.cell? ⟨b, off + j * 2 + 1, none⟩ = some (.slice A3 y.data.length c3) := fun W q => by
                      have f := KT.out W (hbw.trans (q.mono hbw.size))
                      exact ⟨f.c2, f.c3, (q.cell (p := ⟨b, off + k * 2, none⟩) hbb4).trans r40, (q.cell (p := ⟨b, off + k * 2 + 1, none⟩) hbb4).trans r41, (q.cell (p := ⟨b, off + j * 2, none⟩) hbb4).trans r30, (q.cell (p := ⟨b, off + j * 2 + 1, none⟩) hbb4).trans r31⟩
                    have KC := Lib.hid kc
                    have KF := Lib.hid kF
                    obtain ⟨f2, f3, q0, q1, q2, q3⟩ := kF wp (Below.refl _ _)
                    clear r30 r31 r40 r41 rr3 rr4 hm3 kc kF hC hy hx
                    go_wp2
                    go_region_held3 (fun W => W.cell? ⟨w.heap.size, 2, none⟩ = some (.slice Au t.us.length cu) ∧ W.cell? ⟨w.heap.size, 3, none⟩ = some (.slice (some ⟨b, off, none⟩) t.rows.length cr) ∧ W.cell? ⟨b, off + k * 2, none⟩ = some (.string x.id) ∧ W.cell? ⟨b, off + k * 2 + 1, none⟩ = some (.slice A4 x.data.length c4) ∧ W.cell? ⟨b, off + j * 2, none⟩ = some (.string y.id) ∧ W.cell? ⟨b, off + j * 2 + 1, none⟩ = some (.slice A3 y.data.length c3))
                      (exact KF.out _ (by repeat (first | assumption | exact Below.refl _ _ | refine Below.drew ?_ | refine Below.alloc ?_ (by first | assumption | exact Nat.le_refl _ | omega | (simp; done) | (simp; omega)) _ | refine Below.setCell ?_ (by first | assumption | exact Nat.le_refl _ | omega | (simp; done) | (simp; omega)) _)))
                      ((go_at_call 53; (with_reducible refine (KC.out _ ?_).mono ?_); exact (by repeat (first | assumption | exact Below.refl _ _ | refine Below.drew ?_ | refine Below.alloc ?_ (by first | assumption | exact Nat.le_refl _ | omega | (simp; done) | (simp; omega)) _ | refine Below.setCell ?_ (by first | assumption | exact Nat.le_refl _ | omega | (simp; done) | (simp; omega)) _)); rintro e w7 ⟨rfl, hb7⟩; have hp7 : Below wp.heap.size wp w7 := Below.trans (by repeat (first | assumption | exact Below.refl _ _ | refine Below.drew ?_ | refine Below.alloc ?_ (by first | assumption | exact Nat.le_refl _ | omega | (simp; done) | (simp; omega)) _ | refine Below.setCell ?_ (by first | assumption | exact Nat.le_refl _ | omega | (simp; done) | (simp; omega)) _)) (hb7.mono (by simp)); have hq7 : Below w5.heap.size w5 w7 := hbq.trans (hp7.mono hbq.size)))
                    cases C with
                    | true =>
                      obtain rfl : V = false := NO.out fun q => by
                        have := (q.2.2.2.2 k hlt).2.2 j hjk
                        rw [HC.out] at this
                        cases this
                      go_wp2
                      go_ret
                      exact ⟨rfl, DW.out _ (hq5.trans (hq7.mono hq5.size))⟩
                    | false =>
                      go_wp2
                      go_roundw
                      case rel =>
                        refine ⟨j + 1, hjk, by go_num, fun b hb => ?_, hq7⟩
                        rcases Nat.lt_or_ge b j with g | g
                        · exact HN.out b g
                        · obtain rfl : b = j := by omega
                          exact HC.out
                      case measure => simp [intOf]; omega
                  · obtain rfl : j = k := by omega
                    obtain ⟨_, _, f2, f3, _⟩ := KT.out wp hbw
                    go_wp2
                    go_roundw
                    case rel =>
                      refine ⟨j + 1, hlt, by go_num, fun a ha => ?_, hbw⟩
                      rcases Nat.lt_or_ge a j with g | g
                      · exact HG.out a g
                      · obtain rfl : a = j := by omega
                        exact ⟨HO.out, HL.out, HN.out⟩
                    case measure => simp [intOf]; omega
        · obtain rfl : k = t.rows.length := by omega
          have hv : V = true := HQ.out.2 ⟨by omega, by omega, by omega, HQ1.out, fun i h => HG.out i h⟩
          subst hv
          have hdu : decide (t.rows.length < t.rows.length) = false := by simp
          go_wp2
          go_ret
          exact ⟨rfl, DW.out _ hbr⟩
end Go.Proofs.YtcgioepbooafcaaGreatDoor
