/- The reference's Usable: in the program's own terms. Conditions: lengths within the model's. -/
import Derived.Test.YtgoecnhkmfnenaaRefK4
namespace Go.Proofs.Ytgoecnhkmfnenaa
open Go.RowKit
set_option maxHeartbeats 16000000 in
set_option maxRecDepth 100000 in
theorem usable_ref (vn tn nb : ByteArray) (A D A2 : Option Addr) (n m c dl dc c2 : Nat) (G : Value) (fa tb : List UInt8) (hfn : fa.length = n) (htm : tb.length = m) (vh nul has : Bool) (w : World) {B : Nat} (hx : Rd w B A (bv fa)) (hy : Rd w B A2 (bv tb)) (hd : Dflt w B D dl nul) (hB : B ≤ w.heap.size)
    (hc : n ≤ c) (hm : c ≤ maxLen) (hc2 : m ≤ c2) (hm2 : c2 ≤ maxLen) (hnt : m ≤ 140737488351232) :
    Calls Try.prog 24 #[.agg #[.string vn, .string tn, .slice A n c, .bool vh, .slice D dl dc, G], .agg #[.string nb, .slice A2 m c2], .bool has] w fun e w' => e = .returned (.bool (usable tn nb fa tb vh nul has)) ∧ Below w.heap.size w w' := by
  obtain ⟨W0, hW0⟩ : ∃ W0, ((w.alloc (.cells #[.string vn, .string tn, .slice A n c, .bool vh, .slice D dl dc, G] 33)).alloc (.cells #[.string nb, .slice A2 m c2] 24)) = W0 := ⟨_, rfl⟩
  have hb0 : Below w.heap.size w W0 := by rw [← hW0]; exact ((Below.refl _ _).alloc (Nat.le_refl _) _).alloc (by simp) _
  have hT0 : Two w W0 (.string vn) (.string tn) (.slice A n c) (.bool vh) (.slice D dl dc) G (.string nb) (.slice A2 m c2) := by rw [← hW0]; exact Two.new w _ _ _ _ _ _ _ _ _ _
  have hz : w.heap.size + 1 < W0.heap.size := by rw [← hW0]; simp
  have hx0 := hx.thru hb0 hB
  have hy0 := hy.thru hb0 hB
  have hd0 := hd.keep hb0 hB
  have hB0 := Nat.le_trans hB hb0.size
  have hS : ∀ W, Below W0.heap.size W0 W → Two w W (.string vn) (.string tn) (.slice A n c) (.bool vh) (.slice D dl dc) G (.string nb) (.slice A2 m c2) := fun W h => Two.keep h hT0 hz
  have n1 := nonB nb A2 c2 tb hy0 hB0
  have n2 := nonB tn A c fa hx0 hB0
  have hft := fitsB (fits_ref tn nb fa) hB0 tb A A2 c c2 hx0 hy0 (by omega) hm (by omega) hm2
  rw [htm] at n1 hft
  rw [hfn] at n2 hft
  have hfin : ∀ W, Below W0.heap.size W0 W → Below w.heap.size w W := fun W h => bt2 hb0 hb0.size h
  have hdf : ∀ W, Below W0.heap.size W0 W → Dflt W B D dl nul := fun W h => hd0.keep h hB0
  have hbar : ∀ W, Below W0.heap.size W0 W → Calls Try.prog 22 #[.agg #[.string nb, .slice A2 m c2]] W fun e w' => ∃ A' c', e = .returned (.agg #[.string nb, .slice A' (bare tb).length c']) ∧ OwnB w' W0.heap.size (.slice A' (bare tb).length c') (bare tb) ∧ Below W0.heap.size W0 w' := by
    intro W h
    rw [← htm]
    refine (bare_ref nb A2 c2 tb W (Rd.via h hy0 hB0) (Nat.le_trans hB0 h.size) (by omega) hm2 (by omega)).mono ?_
    rintro e w' ⟨A', c', q1, q2, q3⟩
    exact ⟨A', c', q1, own_base q2 h.size, bt2 h h.size q3⟩
  have hfb : ∀ A' c' W, Below W0.heap.size W0 W → OwnB W W0.heap.size (.slice A' (bare tb).length c') (bare tb) → Calls Try.prog 23 #[.agg #[.string tn, .slice A n c], .agg #[.string nb, .slice A' (bare tb).length c']] W fun e w' => e = .returned (.bool (fits tn nb fa (bare tb))) ∧ Below W0.heap.size W0 w' := by
    intro A' c' W h ho
    rw [← hfn]
    refine (fits_ref tn nb fa (bare tb) A A' c c' W W.heap.size ((Rd.via h hx0 hB0).mono (Nat.le_trans hB0 h.size)) (Rd.of_own ho) (Nat.le_refl _) (by omega) hm (own_len ho) (own_cap ho)).mono ?_
    rintro e w' ⟨q1, q2⟩
    exact ⟨q1, bt2 h h.size q2⟩
  have HS := Lib.hid hS
  have HF := Lib.hid hfin
  have HD := Lib.hid hdf
  obtain ⟨V, hV⟩ : ∃ V, usable tn nb fa tb vh nul has = V := ⟨_, rfl⟩
  rw [hV]
  have hVf : ¬ (tb.head? = some 1 ∧ fa.head? ≠ some 1) → V = fits tn nb fa tb := by
    intro h
    rw [← hV]
    unfold usable
    rw [if_neg h]
  have hVt : (tb.head? = some 1 ∧ fa.head? ≠ some 1) → V = ((has || (vh && !nul)) && fits tn nb fa (bare tb)) := by
    intro h
    rw [← hV]
    unfold usable
    rw [if_pos h]
  clear hT0 hS hfin hV hb0 hx hy hx0 hy0 hd hd0 hdf hfn htm
  generalize fits tn nb fa tb = F1 at *
  generalize fits tn nb fa (bare tb) = F2 at *
  generalize (bare tb).length = kb at *
  cases h1 : wr1 tb 1
  · rw [h1] at n1
    obtain rfl : V = F1 := hVf (fun h => hd_ne h1 h.1)
    clear h1 hVf hVt n2 hbar hfb
    obtain ⟨p0, p1, p2, p3, p4, p5, q0, q1⟩ := HS.out _ (Below.refl _ _)
    go_enter Try.func24, Try.ntmps24
    go_wp2_with fail
    clear hW0 p0 p1 p2 p3 p4 p5 q0 q1
    refine (n1 _ (Below.refl _ _)).mono ?_
    rintro e v1 ⟨rfl, hb1⟩
    obtain ⟨p0, p1, p2, p3, p4, p5, q0, q1⟩ := HS.out _ hb1
    go_wp2_with fail
    refine (hft _ hb1).mono ?_
    rintro e v9 ⟨rfl, hb9⟩
    go_wp2_with fail
    go_ret
    exact ⟨rfl, HF.out _ hb9⟩
  · rw [h1] at n1
    have hd1 : tb.head? = some 1 := by obtain ⟨t, rfl⟩ := hd_eq h1; rfl
    cases h2 : wr1 fa 1
    · rw [h2] at n2
      have hVe := hVt ⟨hd1, hd_ne h2⟩
      clear h1 h2 hVf hVt hft hd1
      cases vh
      case false =>
        cases has
        case true =>
          obtain rfl : V = F2 := by rw [hVe]; simp
          clear hVe
          obtain ⟨p0, p1, p2, p3, p4, p5, q0, q1⟩ := HS.out _ (Below.refl _ _)
          go_enter Try.func24, Try.ntmps24
          go_wp2_with fail
          clear hW0 p0 p1 p2 p3 p4 p5 q0 q1
          refine (n1 _ (Below.refl _ _)).mono ?_
          rintro e v1 ⟨rfl, hb1⟩
          obtain ⟨p0, p1, p2, p3, p4, p5, q0, q1⟩ := HS.out _ hb1
          go_wp2_with fail
          clear p0 p1 p2 p3 p4 p5 q0 q1
          refine (n2 _ hb1).mono ?_
          rintro e v2 ⟨rfl, hb2⟩
          obtain ⟨p0, p1, p2, p3, p4, p5, q0, q1⟩ := HS.out _ hb2
          go_wp2_with fail
          first | go_region_held3 (fun W => W.cell? ⟨w.heap.size, 1, none⟩ = some (.string tn) ∧ W.cell? ⟨w.heap.size, 2, none⟩ = some (.slice A n c) ∧ W.cell? ⟨w.heap.size + 1, 0, none⟩ = some (.string nb) ∧ W.cell? ⟨w.heap.size + 1, 1, none⟩ = some (.slice A2 m c2))
            (exact (fun q => ⟨q.c1, q.c2, q.d0, q.d1⟩) (HS.out _ (by repeat (first | assumption | exact Below.refl _ _ | refine Below.drew ?_))))
            (first
              | (go_at_call 22; (with_reducible refine (hbar _ ?_).mono ?_); (repeat (first | assumption | exact Below.refl _ _ | refine Below.drew ?_)); rintro e v5 ⟨A5, c5, rfl, ho5, hb5⟩)
              | (go_at_call 23; (with_reducible refine (hfb A5 c5 _ ?_ ?_).mono ?_); exact hb5; exact ho5; rintro e v6 ⟨rfl, hb6⟩)) | fail
          all_goals
            go_wp2_with fail
            go_ret
            exact ⟨rfl, HF.out _ hb6⟩
        case false =>
          obtain rfl : V = false := by rw [hVe]; simp
          clear hVe
          obtain ⟨p0, p1, p2, p3, p4, p5, q0, q1⟩ := HS.out _ (Below.refl _ _)
          go_enter Try.func24, Try.ntmps24
          go_wp2_with fail
          clear hW0 p0 p1 p2 p3 p4 p5 q0 q1
          refine (n1 _ (Below.refl _ _)).mono ?_
          rintro e v1 ⟨rfl, hb1⟩
          obtain ⟨p0, p1, p2, p3, p4, p5, q0, q1⟩ := HS.out _ hb1
          go_wp2_with fail
          clear p0 p1 p2 p3 p4 p5 q0 q1
          refine (n2 _ hb1).mono ?_
          rintro e v2 ⟨rfl, hb2⟩
          obtain ⟨p0, p1, p2, p3, p4, p5, q0, q1⟩ := HS.out _ hb2
          go_wp2_with fail
          go_quiet (fail)
          go_wp2_with fail
          go_ret
          exact ⟨rfl, bDr2 (HF.out _ hb2) _⟩
      case true =>
        have hD0 := HD.out _ (Below.refl _ _)
        rcases hD0 with ⟨rfl, rfl⟩ | ⟨hdl, b, off, kd, rfl, hbB, hkd, rfl⟩
        · clear HD
          cases has
          case true =>
            obtain rfl : V = F2 := by rw [hVe]; simp
            clear hVe
            obtain ⟨p0, p1, p2, p3, p4, p5, q0, q1⟩ := HS.out _ (Below.refl _ _)
            go_enter Try.func24, Try.ntmps24
            go_wp2_with fail
            clear hW0 p0 p1 p2 p3 p4 p5 q0 q1
            refine (n1 _ (Below.refl _ _)).mono ?_
            rintro e v1 ⟨rfl, hb1⟩
            obtain ⟨p0, p1, p2, p3, p4, p5, q0, q1⟩ := HS.out _ hb1
            go_wp2_with fail
            clear p0 p1 p2 p3 p4 p5 q0 q1
            refine (n2 _ hb1).mono ?_
            rintro e v2 ⟨rfl, hb2⟩
            obtain ⟨p0, p1, p2, p3, p4, p5, q0, q1⟩ := HS.out _ hb2
            go_wp2_with fail
            first | go_region_with (first
                | (go_at_call 22; (with_reducible refine (hbar _ ?_).mono ?_); (repeat (first | assumption | exact Below.refl _ _ | refine Below.drew ?_)); rintro e v5 ⟨A5, c5, rfl, ho5, hb5⟩; obtain ⟨r0, r1, r2, r3, r4, r5, s0, s1⟩ := HS.out _ hb5)
                | (go_at_call 23; (with_reducible refine (hfb A5 c5 _ ?_ ?_).mono ?_); exact hb5; exact ho5; rintro e v6 ⟨rfl, hb6⟩)) | fail
            all_goals
              go_wp2_with fail
              go_ret
              exact ⟨rfl, HF.out _ hb6⟩
          case false =>
            obtain rfl : V = F2 := by rw [hVe]; simp
            clear hVe
            obtain ⟨p0, p1, p2, p3, p4, p5, q0, q1⟩ := HS.out _ (Below.refl _ _)
            go_enter Try.func24, Try.ntmps24
            go_wp2_with fail
            clear hW0 p0 p1 p2 p3 p4 p5 q0 q1
            refine (n1 _ (Below.refl _ _)).mono ?_
            rintro e v1 ⟨rfl, hb1⟩
            obtain ⟨p0, p1, p2, p3, p4, p5, q0, q1⟩ := HS.out _ hb1
            go_wp2_with fail
            clear p0 p1 p2 p3 p4 p5 q0 q1
            refine (n2 _ hb1).mono ?_
            rintro e v2 ⟨rfl, hb2⟩
            obtain ⟨p0, p1, p2, p3, p4, p5, q0, q1⟩ := HS.out _ hb2
            go_wp2_with fail
            first | go_region_with (first
                | (go_at_call 22; (with_reducible refine (hbar _ ?_).mono ?_); (repeat (first | assumption | exact Below.refl _ _ | refine Below.drew ?_)); rintro e v5 ⟨A5, c5, rfl, ho5, hb5⟩; obtain ⟨r0, r1, r2, r3, r4, r5, s0, s1⟩ := HS.out _ hb5)
                | (go_at_call 23; (with_reducible refine (hfb A5 c5 _ ?_ ?_).mono ?_); exact hb5; exact ho5; rintro e v6 ⟨rfl, hb6⟩)) | fail
            all_goals
              go_wp2_with fail
              go_ret
              exact ⟨rfl, HF.out _ hb6⟩
        · have hcell : ∀ W, Below W0.heap.size W0 W → W.cell? ⟨b, off, none⟩ = some (.int .u8 kd) := fun W h => (h.cell (p := ⟨b, off, none⟩) (Nat.lt_of_lt_of_le hbB hB0)).trans hkd
          have HC := Lib.hid hcell
          have hdl' : ((dl : Int) == 0) = false := by rw [beq_eq_false_iff_ne]; omega
          have hdl2 : (0 : Int) < dl := by omega
          clear hcell hkd HD
          by_cases hk0 : kd = 0
          · subst hk0
            cases has
            case true =>
              obtain rfl : V = F2 := by rw [hVe]; simp
              clear hVe
              obtain ⟨p0, p1, p2, p3, p4, p5, q0, q1⟩ := HS.out _ (Below.refl _ _)
              go_enter Try.func24, Try.ntmps24
              go_wp2_with fail
              clear hW0 p0 p1 p2 p3 p4 p5 q0 q1
              refine (n1 _ (Below.refl _ _)).mono ?_
              rintro e v1 ⟨rfl, hb1⟩
              obtain ⟨p0, p1, p2, p3, p4, p5, q0, q1⟩ := HS.out _ hb1
              go_wp2_with fail
              clear p0 p1 p2 p3 p4 p5 q0 q1
              refine (n2 _ hb1).mono ?_
              rintro e v2 ⟨rfl, hb2⟩
              obtain ⟨p0, p1, p2, p3, p4, p5, q0, q1⟩ := HS.out _ hb2
              have hcl := HC.out _ hb2
              go_wp2_with fail
              first | go_region_held3 (fun W => W.cell? ⟨w.heap.size, 1, none⟩ = some (.string tn) ∧ W.cell? ⟨w.heap.size, 2, none⟩ = some (.slice A n c) ∧ W.cell? ⟨w.heap.size + 1, 0, none⟩ = some (.string nb) ∧ W.cell? ⟨w.heap.size + 1, 1, none⟩ = some (.slice A2 m c2))
                (exact (fun q => ⟨q.c1, q.c2, q.d0, q.d1⟩) (HS.out _ (by repeat (first | assumption | exact Below.refl _ _ | refine Below.drew ?_))))
                (first
                  | (go_at_call 22; (with_reducible refine (hbar _ ?_).mono ?_); (repeat (first | assumption | exact Below.refl _ _ | refine Below.drew ?_)); rintro e v5 ⟨A5, c5, rfl, ho5, hb5⟩)
                  | (go_at_call 23; (with_reducible refine (hfb A5 c5 _ ?_ ?_).mono ?_); exact hb5; exact ho5; rintro e v6 ⟨rfl, hb6⟩)) | fail
              all_goals
                go_wp2_with fail
                go_ret
                exact ⟨rfl, HF.out _ hb6⟩
            case false =>
              obtain rfl : V = false := by rw [hVe]; simp
              clear hVe
              obtain ⟨p0, p1, p2, p3, p4, p5, q0, q1⟩ := HS.out _ (Below.refl _ _)
              go_enter Try.func24, Try.ntmps24
              go_wp2_with fail
              clear hW0 p0 p1 p2 p3 p4 p5 q0 q1
              refine (n1 _ (Below.refl _ _)).mono ?_
              rintro e v1 ⟨rfl, hb1⟩
              obtain ⟨p0, p1, p2, p3, p4, p5, q0, q1⟩ := HS.out _ hb1
              go_wp2_with fail
              clear p0 p1 p2 p3 p4 p5 q0 q1
              refine (n2 _ hb1).mono ?_
              rintro e v2 ⟨rfl, hb2⟩
              obtain ⟨p0, p1, p2, p3, p4, p5, q0, q1⟩ := HS.out _ hb2
              have hcl := HC.out _ hb2
              go_wp2_with fail
              go_quiet (fail)
              go_wp2_with fail
              go_ret
              exact ⟨rfl, bDr2 (HF.out _ hb2) _⟩
          · have hk0' : (kd != 0) = true := by simpa using hk0
            have hk1 : (kd == 0) = false := by simpa using hk0
            rw [hk1] at hVe
            clear hk1 hk0
            cases has
            case true =>
              obtain rfl : V = F2 := by rw [hVe]; simp
              clear hVe
              obtain ⟨p0, p1, p2, p3, p4, p5, q0, q1⟩ := HS.out _ (Below.refl _ _)
              go_enter Try.func24, Try.ntmps24
              go_wp2_with fail
              clear hW0 p0 p1 p2 p3 p4 p5 q0 q1
              refine (n1 _ (Below.refl _ _)).mono ?_
              rintro e v1 ⟨rfl, hb1⟩
              obtain ⟨p0, p1, p2, p3, p4, p5, q0, q1⟩ := HS.out _ hb1
              go_wp2_with fail
              clear p0 p1 p2 p3 p4 p5 q0 q1
              refine (n2 _ hb1).mono ?_
              rintro e v2 ⟨rfl, hb2⟩
              obtain ⟨p0, p1, p2, p3, p4, p5, q0, q1⟩ := HS.out _ hb2
              have hcl := HC.out _ hb2
              go_wp2_with fail
              first | go_region_with (first
                  | (go_at_call 22; (with_reducible refine (hbar _ ?_).mono ?_); (repeat (first | assumption | exact Below.refl _ _ | refine Below.drew ?_)); rintro e v5 ⟨A5, c5, rfl, ho5, hb5⟩; obtain ⟨r0, r1, r2, r3, r4, r5, s0, s1⟩ := HS.out _ hb5)
                  | (go_at_call 23; (with_reducible refine (hfb A5 c5 _ ?_ ?_).mono ?_); exact hb5; exact ho5; rintro e v6 ⟨rfl, hb6⟩)) | fail
              all_goals
                go_wp2_with fail
                go_ret
                exact ⟨rfl, HF.out _ hb6⟩
            case false =>
              obtain rfl : V = F2 := by rw [hVe]; simp
              clear hVe
              obtain ⟨p0, p1, p2, p3, p4, p5, q0, q1⟩ := HS.out _ (Below.refl _ _)
              go_enter Try.func24, Try.ntmps24
              go_wp2_with fail
              clear hW0 p0 p1 p2 p3 p4 p5 q0 q1
              refine (n1 _ (Below.refl _ _)).mono ?_
              rintro e v1 ⟨rfl, hb1⟩
              obtain ⟨p0, p1, p2, p3, p4, p5, q0, q1⟩ := HS.out _ hb1
              go_wp2_with fail
              clear p0 p1 p2 p3 p4 p5 q0 q1
              refine (n2 _ hb1).mono ?_
              rintro e v2 ⟨rfl, hb2⟩
              obtain ⟨p0, p1, p2, p3, p4, p5, q0, q1⟩ := HS.out _ hb2
              have hcl := HC.out _ hb2
              go_wp2_with fail
              first | go_region_with (first
                  | (go_at_call 22; (with_reducible refine (hbar _ ?_).mono ?_); (repeat (first | assumption | exact Below.refl _ _ | refine Below.drew ?_)); rintro e v5 ⟨A5, c5, rfl, ho5, hb5⟩; obtain ⟨r0, r1, r2, r3, r4, r5, s0, s1⟩ := HS.out _ hb5)
                  | (go_at_call 23; (with_reducible refine (hfb A5 c5 _ ?_ ?_).mono ?_); exact hb5; exact ho5; rintro e v6 ⟨rfl, hb6⟩)) | fail
              all_goals
                go_wp2_with fail
                go_ret
                exact ⟨rfl, HF.out _ hb6⟩
    · rw [h2] at n2
      obtain rfl : V = F1 := hVf (fun h => h.2 (by obtain ⟨r, rfl⟩ := hd_eq h2; rfl))
      clear h1 h2 hVf hVt hbar hfb
      obtain ⟨p0, p1, p2, p3, p4, p5, q0, q1⟩ := HS.out _ (Below.refl _ _)
      go_enter Try.func24, Try.ntmps24
      go_wp2_with fail
      clear hW0 p0 p1 p2 p3 p4 p5 q0 q1
      refine (n1 _ (Below.refl _ _)).mono ?_
      rintro e v1 ⟨rfl, hb1⟩
      obtain ⟨p0, p1, p2, p3, p4, p5, q0, q1⟩ := HS.out _ hb1
      go_wp2_with fail
      clear p0 p1 p2 p3 p4 p5 q0 q1
      refine (n2 _ hb1).mono ?_
      rintro e v2 ⟨rfl, hb2⟩
      obtain ⟨p0, p1, p2, p3, p4, p5, q0, q1⟩ := HS.out _ hb2
      go_wp2_with fail
      refine (hft _ hb2).mono ?_
      rintro e v9 ⟨rfl, hb9⟩
      go_wp2_with fail
      go_ret
      exact ⟨rfl, HF.out _ hb9⟩
end Go.Proofs.Ytgoecnhkmfnenaa
