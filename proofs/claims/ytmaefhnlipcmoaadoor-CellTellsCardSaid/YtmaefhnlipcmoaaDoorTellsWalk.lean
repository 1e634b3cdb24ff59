/- The law CellTells: it answers true and leaves what there was. Conditions: what the row's reach gives; Go's two tables of utf8. -/
import Derived.Test.YtmaefhnlipcmoaaDoorFnP
namespace Go.Proofs.YtmaefhnlipcmoaaDoor
open Go.RowKit
theorem Rd.of_ownK {w : World} {base n c sz : Nat} {e : TypeId} {A : Option Addr} {xs : List Value} (h : w.ownsRow base e sz (.slice A n c) n xs) : Rd w w.heap.size A xs := by
  obtain ⟨h1, h2⟩ := h
  rcases h2 with ⟨h3, rfl⟩ | ⟨g, cap, cur, h3, hg, hh, hn, hc, hs, ht⟩
  · left
    exact List.eq_nil_of_length_eq_zero (by omega)
  · simp only [Value.slice.injEq] at h3
    obtain ⟨rfl, _, rfl⟩ := h3
    right
    refine ⟨g, 0, rfl, (Array.getElem?_eq_some_iff.1 hh).1, fun j hj => ?_⟩
    rw [Nat.zero_add, cell_of_row w g j _ _ (0, 0) hh, ← Array.getElem?_toList]
    have : xs[j]? = (cur.toList.take (n * sz))[j]? := by rw [ht]
    rw [List.getElem?_take, if_pos (by omega), List.getElem?_eq_getElem hj] at this
    exact this.symm
theorem wf_small {xs : List Cel} {M : Nat} (hwf : ∀ c ∈ xs, CelW maxLen c) (hg : ∀ c ∈ xs, c.name.size ≤ 300 ∧ c.text.size ≤ 3000) (hM : 3000 ≤ M) : ∀ c ∈ xs, CelW M c := fun c hc =>
  ⟨(hwf c hc).kind, by have := (hg c hc).1; omega, by have := (hg c hc).2; omega, (hwf c hc).num0, (hwf c hc).num1, (hwf c hc).many0, (hwf c hc).many1⟩
theorem subR_len (xs : List Cel) (a : Int) : (subR xs a).length ≤ xs.length := by
  unfold subR
  split
  · rw [subL, bare_len]
    simp
    omega
  · simp
theorem kidsR_len {xs : List Cel} {a : Int} : (kidsR xs a).length ≤ 2048 := by
  unfold kidsR
  split
  · rename_i h
    obtain ⟨h1, h2, h3⟩ := askedC_ok h
    rw [List.length_map]
    exact kidL_len h1 h3
  · simp
theorem sameC_refl (xs : List Cel) : sameC xs xs = true := (sameC_iff _ _).2 rfl
set_option maxRecDepth 100000 in
set_option maxHeartbeats 8000000 in
theorem tells_walk {xs ys : List Cel} (A A' : Option Addr) (c c' : Nat) (a : Int) (nm : ByteArray) (w : World) (hx : Rd w w.heap.size A (cv xs)) (hy : Rd w w.heap.size A' (cv ys)) (hwx : ∀ c ∈ xs, CelW maxLen c) (hwy : ∀ c ∈ ys, CelW maxLen c)
    (hlx : xs.length ≤ maxLen) (hly : ys.length ≤ maxLen) (hcx : xs.length ≤ c) (hcm : c ≤ maxLen) (hT : Tabs w) :
    Calls Tryd.prog 5 #[.slice A xs.length c, .slice A' ys.length c', .int .i64 a, .string nm] w fun e w' => e = .returned (.bool true) ∧ Below w.heap.size w w' := by
  have g1 := great_ref A c 200 w hx hlx (by omega)
  have g2 := great_ref A' c' 200 w hy hly (by omega)
  cases hg1 : greatC xs 200 with
  | true =>
    rw [hg1] at g1
    clear g2 hx hy hwx hwy
    go_enter Tryd.func5, Tryd.ntmps5
    go_wp2_with fail
    refine g1.mono ?_
    rintro e w1 ⟨rfl, rfl⟩
    go_wp2
    go_ret
    exact ⟨rfl, Below.refl _ _⟩
  | false =>
    rw [hg1] at g1
    obtain ⟨hn, hsm⟩ := greatC_not hg1
    cases hg2 : greatC ys 200 with
    | true =>
      rw [hg2] at g2
      clear hx hy hwx hwy
      go_enter Tryd.func5, Tryd.ntmps5
      go_wp2_with fail
      refine g1.mono ?_
      rintro e w1 ⟨rfl, rfl⟩
      go_wp2_with fail
      refine g2.mono ?_
      rintro e w1 ⟨rfl, rfl⟩
      go_wp2
      go_ret
      exact ⟨rfl, Below.refl _ _⟩
    | false =>
      rw [hg2] at g2
      obtain ⟨hny, hsmy⟩ := greatC_not hg2
      by_cases h300 : (300 : Int) < nm.size
      · have h300d : decide ((300 : Int) < nm.size) = true := decide_eq_true h300
        clear hx hy hwx hwy
        go_enter Tryd.func5, Tryd.ntmps5
        go_wp2_with fail
        refine g1.mono ?_
        rintro e w1 ⟨rfl, rfl⟩
        go_wp2_with fail
        refine g2.mono ?_
        rintro e w1 ⟨rfl, rfl⟩
        go_wp2
        go_ret
        exact ⟨rfl, Below.refl _ _⟩
      · have h300d : decide ((300 : Int) < nm.size) = false := decide_eq_false h300
        have hIR : InR xs A w w.heap.size := ⟨hx, Nat.le_refl _, by omega, wf_small hwx hsm (by omega)⟩
        have hwmax := hwx
        have hn1 := hn
        have ctw := twin_ref A c w hx (by omega)
        have KEEP := Lib.hid (And.intro hx (And.intro hy (And.intro hwx hIR)))
        clear hx hy hwx hwy hIR hsm hsmy hwmax hg1 hg2
        go_enter Tryd.func5, Tryd.ntmps5
        go_wp2_with fail
        refine g1.mono ?_
        rintro e w1 ⟨rfl, rfl⟩
        go_wp2_with fail
        refine g2.mono ?_
        rintro e w0 ⟨rfl, rfl⟩
        clear g1 g2
        go_wp2_with fail
        refine ctw.mono ?_
        rintro e w1 ⟨v, rfl, hown, hb1⟩
        obtain ⟨A1, c1, rfl, hc1, hc1m⟩ := own_slice hown
        obtain ⟨hx, hy, hwx, hIR⟩ := KEEP.out
        have hI1 : In xs A1 w1 w1.heap.size := ⟨Rd.of_ownK hown, Nat.le_refl _, hlx, hT.below hb1, hwx⟩
        have HOWN := Lib.hid hown
        have HI := Lib.hid hI1
        have HIR := Lib.hid hIR
        clear hown hx hy hwx hIR ctw hI1
        -- the ends
        have c2 := end_any A1 c1 a w1 HI.out
        obtain ⟨eR, heR⟩ : ∃ r, endR xs a = r := ⟨_, rfl⟩
        obtain ⟨aR, haR⟩ : ∃ r, askedC xs a = r := ⟨_, rfl⟩
        rw [heR, haR] at c2
        go_wp2_with fail
        refine c2.mono ?_
        rintro e w2 ⟨rfl, hb2⟩
        clear c2
        have hb02 := hb1.trans (hb2.mono hb1.size)
        have c3 := end_ref A c a w2 (HIR.out.below hb02)
        rw [heR, haR] at c3
        go_wp2_with fail
        refine c3.mono ?_
        rintro e w3 ⟨rfl, hb3⟩
        clear c3 heR
        have hb13 := hb2.trans (hb3.mono hb2.size)
        have hb03 := hb02.trans (hb3.mono hb02.size)
        -- the kids
        have c4 := kids_any A1 c1 a w3 (HI.out.below hb13) (.inl (by omega))
        obtain ⟨kR, hkR⟩ : ∃ r, kidsR xs a = r := ⟨_, rfl⟩
        rw [hkR, haR] at c4
        go_wp2_with fail
        refine c4.mono ?_
        rintro e w4 ⟨vl, rfl, hol, hb4⟩
        clear c4
        have hb14 := hb13.trans (hb4.mono hb13.size)
        have hb04 := hb03.trans (hb4.mono hb03.size)
        obtain ⟨Al, cl, rfl, hcl, hclm⟩ := own_slice hol
        have c5 := kids_ref A c a w4 (HIR.out.below hb04)
        rw [hkR, haR] at c5
        have HOL := Lib.hid hol
        clear hol
        go_wp2_with fail
        refine c5.mono ?_
        rintro e w5 ⟨vm, rfl, hom, hb5⟩
        clear c5
        have hb15 := hb14.trans (hb5.mono hb14.size)
        have hb05 := hb04.trans (hb5.mono hb04.size)
        obtain ⟨Am, cm, rfl, hcm5, hcmm⟩ := own_slice hom
        have HOM := Lib.hid hom
        clear hom
        have hkl : kR.length ≤ 2048 := by rw [← hkR]; exact kidsR_len
        clear hkR
        -- a member
        have c6 := member_any A1 c1 a nm w5 (HI.out.below hb15)
        obtain ⟨qR, hqR⟩ : ∃ r : Int, ((memR xs a nm).getD 0 : Nat) = r := ⟨_, rfl⟩
        obtain ⟨bR, hbR⟩ : ∃ r, (memR xs a nm).isSome = r := ⟨_, rfl⟩
        rw [hqR, hbR] at c6
        go_wp2_with fail
        refine c6.mono ?_
        rintro e w6 ⟨rfl, hb6⟩
        clear c6
        have hb16 := hb15.trans (hb6.mono hb15.size)
        have hb06 := hb05.trans (hb6.mono hb05.size)
        have c7 := member_ref A c a nm w6 (HIR.out.below hb06)
        rw [hqR, hbR] at c7
        go_wp2_with fail
        refine c7.mono ?_
        rintro e w7 ⟨rfl, hb7⟩
        clear c7 hqR hbR
        have hb17 := hb16.trans (hb7.mono hb16.size)
        have hb07 := hb06.trans (hb7.mono hb06.size)
        -- the value there
        have c8 := sub_any A1 c1 a w7 (HI.out.below hb17) hc1 hc1m
        obtain ⟨sR, hsR⟩ : ∃ r, subR xs a = r := ⟨_, rfl⟩
        rw [hsR, haR] at c8
        go_wp2_with fail
        refine c8.mono ?_
        rintro e w8 ⟨vx, rfl, hox, hb8⟩
        clear c8
        have hb18 := hb17.trans (hb8.mono hb17.size)
        have hb08 := hb07.trans (hb8.mono hb07.size)
        obtain ⟨Ax, cx, rfl, hcx8, hcxm⟩ := own_slice hox
        have HOX := Lib.hid hox
        clear hox
        have c9 := sub_ref A c a w8 (HIR.out.below hb08) hcx hcm
        rw [hsR, haR] at c9
        go_wp2_with fail
        refine c9.mono ?_
        rintro e w9 ⟨vy, rfl, hoy, hb9⟩
        clear c9 haR
        have hsl : sR.length ≤ 200 := by rw [← hsR]; have := subR_len xs a; omega
        clear hsR
        have hb19 := hb18.trans (hb9.mono hb18.size)
        have hb09 := hb08.trans (hb9.mono hb08.size)
        obtain ⟨Ay, cy, rfl, hcy9, hcym⟩ := own_slice hoy
        have hrx : Rd w9 w8.heap.size Ax (cv sR) := (Rd.of_ownK HOX.out).thru hb9 (Nat.le_refl _)
        have cs := same_ref Ax Ay cx cy w9 hrx (Rd.of_ownK hoy) hb9.size (Nat.le_refl _) (by omega)
        rw [sameC_refl] at cs
        clear hoy hrx
        go_upto_region 13 with (first | (go_at_call 14; refine cs.mono ?_; rintro e wA ⟨rfl, hbA⟩))
        clear cs
        have hb1A := hb19.trans (hbA.mono hb19.size)
        have hb0A := hb09.trans (hbA.mono hb09.size)
        have hb4A : Below w4.heap.size w4 wA := ((((((hb5.trans (hb6.mono hb5.size)).trans (hb7.mono (Nat.le_trans hb5.size hb6.size))).trans (hb8.mono (Nat.le_trans hb5.size (Nat.le_trans hb6.size hb7.size)))).trans (hb9.mono (Nat.le_trans hb5.size (Nat.le_trans hb6.size (Nat.le_trans hb7.size hb8.size)))))).trans (hbA.mono (Nat.le_trans hb5.size (Nat.le_trans hb6.size (Nat.le_trans hb7.size (Nat.le_trans hb8.size hb9.size))))))
        have hb5A : Below w5.heap.size w5 wA := ((((hb6.trans (hb7.mono hb6.size)).trans (hb8.mono (Nat.le_trans hb6.size hb7.size))).trans (hb9.mono (Nat.le_trans hb6.size (Nat.le_trans hb7.size hb8.size)))).trans (hbA.mono (Nat.le_trans hb6.size (Nat.le_trans hb7.size (Nat.le_trans hb8.size hb9.size)))))
        have hb8A : Below w8.heap.size w8 wA := hb9.trans (hbA.mono hb9.size)
        have hrl : Rd wA wA.heap.size Al (iv kR) := (Rd.of_own HOL.out).below hb4A (Nat.le_refl _) |>.mono hb4A.size
        have hrm : Rd wA wA.heap.size Am (iv kR) := (Rd.of_own HOM.out).below hb5A (Nat.le_refl _) |>.mono hb5A.size
        have HRL := Lib.hid hrl
        have HRM := Lib.hid hrm
        clear hrl hrm
        go_wp2
        go_loopw [26, 27] (fun vo vk wr => ∃ k : Nat, k ≤ kR.length ∧ vk = .int .i64 k ∧ vo = .bool true ∧ Below wA.heap.size wA wr) (fun _ vk _ => kR.length - (intOf vk).toNat)
        case atStart => exact ⟨0, Nat.zero_le _, rfl, rfl, Below.refl _ _⟩
        case round =>
          obtain ⟨k, hk, rfl, rfl, hbr⟩ := hrel
          by_cases hlt : k < kR.length
          · obtain ⟨b1, o1, rfl, hb1l, hcl1⟩ := HRL.out.at' (k := k) (by rw [iv_len]; exact hlt)
            obtain ⟨b2, o2, rfl, hb2l, hcl2⟩ := HRM.out.at' (k := k) (by rw [iv_len]; exact hlt)
            have e1 := (hbr.cell (p := ⟨b1, o1 + k, none⟩) hb1l).trans (hcl1 k (by rw [iv_len]; exact hlt))
            have e2 := (hbr.cell (p := ⟨b2, o2 + k, none⟩) hb2l).trans (hcl2 k (by rw [iv_len]; exact hlt))
            simp only [iv, List.getElem_map] at e1 e2
            obtain ⟨x, hx⟩ : ∃ x, kR[k] = x := ⟨_, rfl⟩
            rw [hx] at e1 e2
            have hkI : (k : Int) < kR.length := by omega
            have hkd : decide ((k : Int) < kR.length) = true := decide_eq_true hkI
            clear hx hcl1 hcl2
            go_wp2
            go_quiet (fail)
            go_wp2
            go_roundw
            case rel => exact ⟨k + 1, hlt, by go_num, by simp, hbr.drewN' _⟩
            case measure => simp [intOf]; omega
          · obtain rfl : k = kR.length := by omega
            have hkd : decide ((kR.length : Int) < kR.length) = false := by simp
            have hb1B := hb1A.trans (hbr.mono hb1A.size)
            have hb0B := hb0A.trans (hbr.mono hb0A.size)
            have hb8B := hb8A.trans (hbr.mono hb8A.size)
            clear HRL HRM hb4A hb5A hb1A hb0A hb8A
            have k1 := check_any2 A1 c1 wr (HI.out.below hb1B)
            obtain ⟨kv, hkv⟩ : ∃ v, checkC xs = v := ⟨_, rfl⟩
            rw [hkv] at k1
            go_wp2_with fail
            refine k1.mono ?_
            rintro e u1 ⟨rfl, hd1⟩
            clear k1
            have p1 := hb1B.trans (hd1.mono hb1B.size)
            have q1 := hb0B.trans (hd1.mono hb0B.size)
            have r1 := hb8B.trans (hd1.mono hb8B.size)
            have k2 := check_ref A c u1 (HIR.out.below q1).rd (HIR.out.below q1).le (by omega) HIR.out.wf
            rw [hkv] at k2
            go_wp2_with fail
            refine k2.mono ?_
            rintro e u2 ⟨rfl, hd2⟩
            clear k2 hkv
            have p2 := p1.trans (hd2.mono p1.size)
            have q2 := q1.trans (hd2.mono q1.size)
            have r2 := r1.trans (hd2.mono r1.size)
            have k3 := plain_any A1 c1 u2 (HI.out.below p2) (by omega)
            obtain ⟨pv, hpv⟩ : ∃ v, plainC xs = v := ⟨_, rfl⟩
            rw [hpv] at k3
            go_wp2_with fail
            refine k3.mono ?_
            rintro e u3 ⟨rfl, hd3⟩
            clear k3
            have p3 := p2.trans (hd3.mono p2.size)
            have q3 := q2.trans (hd3.mono q2.size)
            have r3 := r2.trans (hd3.mono r2.size)
            have k4 := plain_ref A c u3 (HIR.out.below q3)
            rw [hpv] at k4
            go_wp2_with fail
            refine k4.mono ?_
            rintro e u4 ⟨rfl, hd4⟩
            clear k4 hpv
            have p4 := p3.trans (hd4.mono p3.size)
            have q4 := q3.trans (hd4.mono q3.size)
            have r4 := r3.trans (hd4.mono r3.size)
            have k5 := same_any A1 A' c1 c' u4 (HI.out.below p4).rd (KEEP.out.2.1.thru q4 (Nat.le_refl _)) (HI.out.below p4).le q4.size (by omega)
            obtain ⟨sv, hsv⟩ : ∃ v, sameC xs ys = v := ⟨_, rfl⟩
            rw [hsv] at k5
            go_wp2_with fail
            refine k5.mono ?_
            rintro e u5 ⟨rfl, hd5⟩
            clear k5
            have p5 := p4.trans (hd5.mono p4.size)
            have q5 := q4.trans (hd5.mono q4.size)
            have r5 := r4.trans (hd5.mono r4.size)
            have k6 := same_ref A A' c c' u5 (HIR.out.below q5).rd (KEEP.out.2.1.thru q5 (Nat.le_refl _)) (HIR.out.below q5).le q5.size (by omega)
            rw [hsv] at k6
            go_wp2_with fail
            refine k6.mono ?_
            rintro e u6 ⟨rfl, hd6⟩
            clear k6 hsv
            have p6 := p5.trans (hd6.mono p5.size)
            have q6 := q5.trans (hd6.mono q5.size)
            have r6 := r5.trans (hd6.mono r5.size)
            have k7 := same_any A1 A c1 c u6 (HI.out.below p6).rd (HIR.out.below q6).rd (HI.out.below p6).le (HIR.out.below q6).le (by omega)
            rw [sameC_refl] at k7
            go_wp2_with fail
            refine k7.mono ?_
            rintro e u7 ⟨rfl, hd7⟩
            clear k7
            have p7 := p6.trans (hd7.mono p6.size)
            have q7 := q6.trans (hd7.mono q6.size)
            have r7 := r6.trans (hd7.mono r6.size)
            have k8 := twin_any u7 (own_below HOWN.out p7 (own_lt HOWN.out)) (by omega)
            go_wp2_with fail
            refine k8.mono ?_
            rintro e u8 ⟨vt, rfl, hot, hd8⟩
            clear k8
            obtain ⟨At, ct, rfl, hct, hctm⟩ := own_slice hot
            have HOT := Lib.hid hot
            clear hot
            have p8 := p7.trans (hd8.mono p7.size)
            have q8 := q7.trans (hd8.mono q7.size)
            have r8 := r7.trans (hd8.mono r7.size)
            have k9 := same_ref At A ct c u8 (Rd.of_ownK HOT.out) (HIR.out.below q8).rd (Nat.le_refl _) (HIR.out.below q8).le (by omega)
            rw [sameC_refl] at k9
            go_wp2_with fail
            refine k9.mono ?_
            rintro e u9 ⟨rfl, hd9⟩
            clear k9
            have p9 := p8.trans (hd9.mono p8.size)
            have q9 := q8.trans (hd9.mono q8.size)
            have r9 := r8.trans (hd9.mono r8.size)
            have hox9 := own_below HOX.out r9 (own_lt HOX.out)
            have k10 := spoil_any u9 hox9 (by omega)
            go_wp2_with fail
            refine k10.mono ?_
            rintro e v1 ⟨rfl, hs1, hg1⟩
            clear k10
            have hot9 := own_below HOT.out hd9 (own_lt HOT.out)
            have hne : (Value.slice At xs.length ct).ownBlock = none ∨ (Value.slice At xs.length ct).ownBlock ≠ (Value.slice Ax sR.length cx).ownBlock := by
              rcases At with _ | at1
              · left; rfl
              · right
                intro e
                have h1 := (HOT.out.lt at1.block rfl).1
                have h2 := (HOX.out.lt at1.block e.symm).2
                have := r7.size
                omega
            have hot10 := hot9.kept hg1 hne
            have k11 := spoil_any v1 hot10 (by omega)
            go_wp2_with fail
            refine k11.mono ?_
            rintro e v2 ⟨rfl, hs2, hg2⟩
            clear k11
            have s17 : w1.heap.size ≤ w7.heap.size := hb17.size
            have s07 : w0.heap.size ≤ w7.heap.size := hb07.size
            have su7 : w1.heap.size ≤ u7.heap.size := p7.size
            have su07 : w0.heap.size ≤ u7.heap.size := q7.size
            have p10 := (p9.trans (hs1.mono s17)).trans (hs2.mono su7)
            have q10 := (q9.trans (hs1.mono s07)).trans (hs2.mono su07)
            have k12 := same_ref A1 A c1 c v2 (HI.out.below p10).rd (HIR.out.below q10).rd (HI.out.below p10).le (HIR.out.below q10).le (by omega)
            rw [sameC_refl] at k12
            go_wp2_with fail
            refine k12.mono ?_
            rintro e v3 ⟨rfl, hs3⟩
            go_wp2
            go_ret
            exact ⟨rfl, q10.trans (hs3.mono q10.size)⟩
end Go.Proofs.YtmaefhnlipcmoaaDoor
