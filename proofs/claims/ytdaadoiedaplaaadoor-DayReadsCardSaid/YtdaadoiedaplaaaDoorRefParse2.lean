/- The reference's Parse where a fraction is told, in plain words. Conditions: the text's length within the model's. -/
import Derived.Test.YtdaadoiedaplaaaDoorRefParse
namespace Go.Proofs.YtdaadoiedaplaaaDoor
open Go.RowKit Go.Lib
theorem numR_one (l : List UInt8) (k : Nat) (hk : k ≤ ((l.drop 20).takeWhile isDig).length) : 0 ≤ numR l (20 + k) 1 ↔ k < ((l.drop 20).takeWhile isDig).length := by
  have hg : ∀ (L : List UInt8) (k : Nat), k ≤ (L.takeWhile isDig).length → ((k + 1 ≤ L.length ∧ ((L.drop k).take 1).all isDig = true) ↔ k < (L.takeWhile isDig).length) := by
    intro L
    induction L with
    | nil => intro k hk; simp
    | cons c r ih =>
      intro k hk
      by_cases hc : isDig c = true
      · rw [List.takeWhile_cons_of_pos hc, List.length_cons] at hk ⊢
        cases k with
        | zero => simp [hc]
        | succ k =>
          have := ih k (by omega)
          rw [List.drop_succ_cons, List.length_cons]
          constructor
          · rintro ⟨a, b⟩
            have := this.1 ⟨by omega, b⟩
            omega
          · intro a
            obtain ⟨b, c⟩ := this.2 (by omega)
            exact ⟨by omega, c⟩
      · rw [List.takeWhile_cons_of_neg hc] at hk ⊢
        obtain rfl : k = 0 := by simpa using hk
        simp [hc]
  have h := hg (l.drop 20) k hk
  rw [List.length_drop, List.drop_drop] at h
  rw [← h]
  unfold numR
  split
  · rename_i h2
    constructor
    · intro _; exact ⟨by omega, h2.2⟩
    · intro _; omega
  · rename_i h2
    constructor
    · intro h3; omega
    · intro h3
      exact absurd ⟨by omega, h3.2⟩ h2
theorem numR_many (l : List UInt8) (k : Nat) (h20 : 20 ≤ l.length) (hk : k ≤ ((l.drop 20).takeWhile isDig).length) : numR l 20 k = (valL ((l.drop 20).take k) : Nat) := by
  unfold numR
  have := tw_len isDig (l.drop 20)
  rw [List.length_drop] at this
  rw [if_pos ⟨by omega, tw_take _ _ _ hk⟩]
theorem pow_bd (v k j : Nat) (h1 : k ≤ j) (h2 : j ≤ 9) (h : v < 10 ^ k) : v * 10 ^ (j - k) < 1000000000 := by
  have h3 : v * 10 ^ (j - k) < 10 ^ k * 10 ^ (j - k) := Nat.mul_lt_mul_of_pos_right h (Nat.pow_pos (by omega))
  rw [← Nat.pow_add, show k + (j - k) = j by omega] at h3
  exact Nat.lt_of_lt_of_le h3 (Nat.pow_le_pow_right (by omega) h2)
theorem val_bd (l : List UInt8) (k : Nat) (hk : k ≤ ((l.drop 20).takeWhile isDig).length) : valL ((l.drop 20).take k) < 10 ^ k := by
  have h := val_lt _ (tw_take isDig (l.drop 20) k hk) rfl
  refine Nat.lt_of_lt_of_le h (Nat.pow_le_pow_right (by omega) (by rw [List.length_take]; omega))
set_option maxHeartbeats 16000000 in
set_option maxRecDepth 100000 in
theorem parse_dot (s : ByteArray) (w : World) (hs : s.size ≤ maxLen) (h20 : 20 ≤ s.size) (h19 : ((s[19]'(Nat.lt_of_lt_of_le (by decide) h20)).toNat : Int) = 46) : Calls Tryd.prog 11 #[.string s] w fun e w' => e = .returned (pv (parseR s.data.toList)) ∧ Below w.heap.size w w' := by
  have hlen := ba_len s
  obtain ⟨P, hP⟩ : ∃ P, parseR s.data.toList = P := ⟨_, rfl⟩
  rw [hP]
  have hB : bytesR s.data.toList ↔ ((s[4]'(Nat.lt_of_lt_of_le (by decide) h20)).toNat = 45 ∧ (s[7]'(Nat.lt_of_lt_of_le (by decide) h20)).toNat = 45 ∧ ((s[10]'(Nat.lt_of_lt_of_le (by decide) h20)).toNat = 84 ∨ (s[10]'(Nat.lt_of_lt_of_le (by decide) h20)).toNat = 116) ∧ (s[13]'(Nat.lt_of_lt_of_le (by decide) h20)).toNat = 58 ∧ (s[16]'(Nat.lt_of_lt_of_le (by decide) h20)).toNat = 58) := by
    unfold bytesR
    rw [getD_at s 4 (by omega), getD_at s 7 (by omega), getD_at s 10 (by omega), getD_at s 13 (by omega), getD_at s 16 (by omega)]
    omega
  unfold parseR at hP
  have n_y := fun W => number_ref s 0 4 (by omega) (by omega) hs W
  obtain ⟨y0, y1⟩ := numR_bd4 s.data.toList 0
  have n_m := fun W => number_ref s 5 2 (by omega) (by omega) hs W
  obtain ⟨m0, m1⟩ := numR_bd s.data.toList 5
  have n_d := fun W => number_ref s 8 2 (by omega) (by omega) hs W
  obtain ⟨d0, d1⟩ := numR_bd s.data.toList 8
  have n_h := fun W => number_ref s 11 2 (by omega) (by omega) hs W
  obtain ⟨h0, h1⟩ := numR_bd s.data.toList 11
  have n_mi := fun W => number_ref s 14 2 (by omega) (by omega) hs W
  obtain ⟨mi0, mi1⟩ := numR_bd s.data.toList 14
  have n_sec := fun W => number_ref s 17 2 (by omega) (by omega) hs W
  obtain ⟨sec0, sec1⟩ := numR_bd s.data.toList 17
  generalize numR s.data.toList 0 4 = y at *
  generalize numR s.data.toList 5 2 = m at *
  generalize numR s.data.toList 8 2 = d at *
  generalize numR s.data.toList 11 2 = h at *
  generalize numR s.data.toList 14 2 = mi at *
  generalize numR s.data.toList 17 2 = sec at *
  have hbad : ¬ ((s[4]'(Nat.lt_of_lt_of_le (by decide) h20)).toNat = 45 ∧ (s[7]'(Nat.lt_of_lt_of_le (by decide) h20)).toNat = 45 ∧ ((s[10]'(Nat.lt_of_lt_of_le (by decide) h20)).toNat = 84 ∨ (s[10]'(Nat.lt_of_lt_of_le (by decide) h20)).toNat = 116) ∧ (s[13]'(Nat.lt_of_lt_of_le (by decide) h20)).toNat = 58 ∧ (s[16]'(Nat.lt_of_lt_of_le (by decide) h20)).toNat = 58 ∧ numsR y m d h mi sec) → P = none := by
    intro hq
    rw [← hP, if_neg]
    rintro ⟨h5, h6⟩
    obtain ⟨h1, h2, h3, h4, h5⟩ := hB.1 h5
    exact hq ⟨h1, h2, h3, h4, h5, h6⟩
  have hgood : ((s[4]'(Nat.lt_of_lt_of_le (by decide) h20)).toNat = 45 ∧ (s[7]'(Nat.lt_of_lt_of_le (by decide) h20)).toNat = 45 ∧ ((s[10]'(Nat.lt_of_lt_of_le (by decide) h20)).toNat = 84 ∨ (s[10]'(Nat.lt_of_lt_of_le (by decide) h20)).toNat = 116) ∧ (s[13]'(Nat.lt_of_lt_of_le (by decide) h20)).toNat = 58 ∧ (s[16]'(Nat.lt_of_lt_of_le (by decide) h20)).toNat = 58 ∧ numsR y m d h mi sec) → P = tailR y.toNat m.toNat d.toNat h.toNat mi.toNat sec.toNat s.data.toList := by
    rintro ⟨h1, h2, h3, h4, h5, h6⟩
    rw [← hP, if_pos ⟨hB.2 ⟨h1, h2, h3, h4, h5⟩, h6⟩]
  unfold numsR at hbad hgood
  have hdy := fun W (a : 0 ≤ y) (b : 1 ≤ m) (c : m ≤ 12) => days_refI y m a (by omega) b c W
  have HDM := Lib.hid (fun (a : 1 ≤ m) (b : m ≤ 12) => dim_bd y m a b)
  generalize dim y m = D at *
  have HBad := Lib.hid hbad
  have HGood := Lib.hid hgood
  have H20 : ((s.size : Int) < 20) = False := by simp; omega
  clear hP hbad hgood hB
  have hl20 : 20 ≤ s.data.toList.length := by omega
  have hfr : ∀ k, many9 s.data.toList = k → fracR s.data.toList = if k = 0 then none else some (valL ((s.data.toList.drop 20).take k) * 10 ^ (9 - k), 20 + k) := by
    intro k hk
    unfold fracR
    rw [getD_at s 19 (by omega), if_pos (UInt8.toNat_inj.1 (by rw [show (46 : UInt8).toNat = 46 from rfl]; omega)), hk]
  have hm9 : many9 s.data.toList = min 9 ((s.data.toList.drop 20).takeWhile isDig).length := rfl
  have htw := tw_len isDig (s.data.toList.drop 20)
  rw [List.length_drop] at htw
  have htw2 : 20 + ((s.data.toList.drop 20).takeWhile isDig).length ≤ s.size := by omega
  have HTW := Lib.hid htw2
  clear htw htw2
  have hone := fun k => numR_one s.data.toList k
  have hmany := fun k => numR_many s.data.toList k hl20
  have hvb := fun k => val_bd s.data.toList k
  generalize ((s.data.toList.drop 20).takeWhile isDig).length = tw at *
  have hfr0 : many9 s.data.toList = 0 → ∀ y m d h mi sec : Nat, tailR y m d h mi sec s.data.toList = none := by
    intro hk y m d h mi sec
    unfold tailR
    rw [hfr 0 hk, if_pos rfl]; rfl
  have hfr1 : ∀ k, many9 s.data.toList = k → k ≠ 0 → ∀ y m d h mi sec : Nat, tailR y m d h mi sec s.data.toList = (offR (s.data.toList.drop (20 + k))).bind (endR y m d h mi sec (valL ((s.data.toList.drop 20).take k) * 10 ^ (9 - k))) := by
    intro k hk h0 y m d h mi sec
    unfold tailR
    rw [hfr k hk, if_neg h0]; rfl
  have HFR0 := Lib.hid hfr0
  have HFR := Lib.hid hfr1
  have HM9 := Lib.hid hm9
  have HONE := Lib.hid hone
  have HMANY := Lib.hid hmany
  have HVB := Lib.hid hvb
  clear hfr0 hfr1 hfr hm9 hone hmany hvb hl20
  go_enter Tryd.func11, Tryd.ntmps11
  go_wp2_with fail
  refine (n_y _).mono ?_
  rintro e w' ⟨rfl, rfl⟩
  go_wp2_with fail
  refine (n_m _).mono ?_
  rintro e w' ⟨rfl, rfl⟩
  go_wp2_with fail
  refine (n_d _).mono ?_
  rintro e w' ⟨rfl, rfl⟩
  go_wp2_with fail
  refine (n_h _).mono ?_
  rintro e w' ⟨rfl, rfl⟩
  go_wp2_with fail
  refine (n_mi _).mono ?_
  rintro e w' ⟨rfl, rfl⟩
  go_wp2_with fail
  refine (n_sec _).mono ?_
  rintro e w' ⟨rfl, rfl⟩
  go_wp2_with fail
  all_goals first
    | (refine bodyPost_ret (v := Value.tuple #[.agg #[.int .i64 0, .int .i64 0], .int .i64 120]) ?_ rfl ⟨?_, ?_⟩
       · rw [results_cell_tmp rfl]
         exact load_day _ _ _ _ _ _ (World.cell?_alloc_at _ _ _ _ rfl) (World.cell?_alloc_at _ _ _ _ rfl) rfl rfl
       · go_light
         (try simp only [bne_iff_ne, ne_eq, bne_eq_false_iff_eq] at *)
         rw [HBad.out (by omega)]
         rfl
       · exact bAl w _)
    | skip
  all_goals
    refine (hdy _ (by omega) (by omega) (by omega)).mono ?_
    rintro e w' ⟨rfl, rfl⟩
    clear n_y n_m n_d n_h n_mi n_sec hdy
    go_wp2_with fail
    all_goals first
      | (refine bodyPost_ret (v := Value.tuple #[.agg #[.int .i64 0, .int .i64 0], .int .i64 120]) ?_ rfl ⟨?_, ?_⟩
         · rw [results_cell_tmp rfl]
           exact load_day _ _ _ _ _ _ (World.cell?_alloc_at _ _ _ _ rfl) (World.cell?_alloc_at _ _ _ _ rfl) rfl rfl
         · go_light
           (try simp only [bne_iff_ne, ne_eq, bne_eq_false_iff_eq] at *)
           rw [HBad.out (by omega)]
           rfl
         · exact bAl w _)
      | skip
    have hd31 : d ≤ 31 := by
      go_light
      (try simp only [bne_iff_ne, ne_eq, bne_eq_false_iff_eq, Bool.or_eq_false_iff, decide_eq_false_iff_not] at *)
      have := HDM.out (by omega) (by omega)
      omega
    have hPT : P = tailR y.toNat m.toNat d.toNat h.toNat mi.toNat sec.toNat s.data.toList := by
      go_light
      (try simp only [bne_iff_ne, ne_eq, bne_eq_false_iff_eq, Bool.or_eq_false_iff, decide_eq_false_iff_not] at *)
      exact HGood.out (by omega)
    have HPT := Lib.hid hPT
    clear hPT HGood HBad
    go_loop [12] (fun v => ∃ k : Nat, v = .int .i64 k ∧ k ≤ 9 ∧ k ≤ tw) (fun v => 9 - (RowKit.intOf v).toNat)
    case atStart => exact ⟨0, rfl, by omega, by omega⟩
    case round =>
      obtain ⟨k, rfl, hk9, hkt⟩ := hrel
      have hn1 := fun W => number_ref s (20 + k) 1 (by omega) (by omega) hs W
      rw [show (((20 + k : Nat)) : Int) = 20 + (k : Int) by omega] at hn1
      obtain ⟨v1, hv1⟩ : ∃ v, numR s.data.toList (20 + k) 1 = v := ⟨_, rfl⟩
      have hone := HONE.out k hkt
      have hk20L : (20 : Int) + (k : Int) ≤ s.size := by have := HTW.out; omega
      rw [hv1] at hone hn1
      clear hv1
      by_cases hgo : k < 9 ∧ k < tw
      · have hv0 : 0 ≤ v1 := hone.2 hgo.2
        have hk9' : (k : Int) < 9 := by omega
        have HGO := Lib.hid hgo
        clear hone hgo
        go_wp2_with fail
        refine (hn1 _).mono ?_
        rintro e w' ⟨rfl, rfl⟩
        go_wp2_with fail
        go_round
        case rel => exact ⟨k + 1, by go_num, by have := HGO.out; omega, by have := HGO.out; omega⟩
        case measure => have := HGO.out; simp [RowKit.intOf]; omega
      · have hm : many9 s.data.toList = k := by rw [HM9.out]; omega
        rcases Nat.lt_or_ge k 9 with h9 | h9
        · have hv0 : v1 < 0 := by
            have : ¬ k < tw := by omega
            have := fun e => this (hone.1 e)
            omega
          have hk9' : (k : Int) < 9 := by omega
          have HM := Lib.hid hm
          clear hone hgo hm
          go_wp2_with fail
          refine (hn1 _).mono ?_
          rintro e w' ⟨rfl, rfl⟩
          go_wp2_with fail
          have hm := HM.out
          clear hn1 hv0 HM

          have hnm := fun W => number_ref s 20 k (by omega) hk9 hs W
          rw [HMANY.out k hkt] at hnm
          have hvb := HVB.out k hkt
          have hf0 := fun h : k = 0 => HFR0.out (hm.trans h)
          have hf1 := HFR.out k hm
          generalize valL ((s.data.toList.drop 20).take k) = v at *
          have HF0 := Lib.hid hf0
          have HF1 := Lib.hid hf1
          clear hf0 hf1
          refine (hnm _).mono ?_
          rintro e w' ⟨rfl, rfl⟩
          clear hnm
          go_wp2_with fail
          go_loop [11, 13] (fun n i => ∃ j : Nat, i = .int .i64 j ∧ k ≤ j ∧ j ≤ 9 ∧ n = .int .i64 ((v * 10 ^ (j - k) : Nat) : Int)) (fun _ i => 9 - (RowKit.intOf i).toNat)
          case atStart => exact ⟨k, rfl, Nat.le_refl _, hk9, by simp⟩
          case round =>
            obtain ⟨j, rfl, hkj, hj9, rfl⟩ := hrel
            have hpb := pow_bd v k j hkj hj9 hvb
            by_cases hlt : j < 9
            · have hnx : v * 10 ^ (j + 1 - k) = 10 * (v * 10 ^ (j - k)) := by
                rw [show j + 1 - k = (j - k) + 1 by omega, Nat.pow_succ]
                rw [← Nat.mul_assoc, Nat.mul_comm]
              have HNX := Lib.hid hnx
              clear hnx hvb
              generalize v * 10 ^ (j - k) = q at *
              go_wp2_with fail
              go_round
              case rel => exact ⟨j + 1, by go_num, by omega, by omega, num_eq (by rw [HNX.out]; omega)⟩
              case measure => simp [RowKit.intOf]; omega
            · obtain rfl : j = 9 := by omega
              clear hvb hj9
              generalize v * 10 ^ (9 - k) = N0 at *
              by_cases hk0 : k = 0
              · have hPn : P = none := HPT.out.trans (HF0.out hk0 _ _ _ _ _ _)
                have hk0' : ((k : Nat) : Int) = 0 := by omega
                clear HF0 HF1 hk0
                go_wp2_with fail
                refine bodyPost_ret (v := Value.tuple #[.agg #[.int .i64 0, .int .i64 0], .int .i64 120]) ?_ rfl ⟨by first | rfl | (rw [hPn]; rfl), bAl w _⟩
                rw [results_cell_tmp rfl]
                exact load_day _ _ _ _ _ _ (World.cell?_alloc_at _ _ _ _ rfl) (World.cell?_alloc_at _ _ _ _ rfl) rfl rfl
              · have hk0' : (((k : Nat) : Int) == 0) = false := by rw [beq_eq_false_iff_ne]; omega
                have hPO := HPT.out.trans (HF1.out hk0 _ _ _ _ _ _)
                have ho := fun W => offset_ref (s.extract (20 + k) s.size) (Nat.le_trans (by rw [ByteArray.size_extract]; omega) hs) W
                rw [ext_drop] at ho
                have hob := offR_bd (s.data.toList.drop (20 + k))
                clear HF0 HF1
                generalize offR (s.data.toList.drop (20 + k)) = O at *
                have HPO := Lib.hid hPO
                have hk20 : (20 : Int) + (k : Int) ≤ s.size := hk20L
                clear hPO
                go_wp2_with fail
                have hPO := HPO.out
                clear HPO
                have hsb := since_bd y m d (by omega) (by omega) (by omega) (by omega) (by omega) hd31
                have hsd : sinceD y.toNat m.toNat d.toNat = sinceD y m d := by rw [Int.toNat_of_nonneg (by omega), Int.toNat_of_nonneg (by omega), Int.toNat_of_nonneg (by omega)]
                have hah := fun W => ahead_refI y m d (by omega) (by omega) (by omega) (by omega) (by omega) hd31 W
                have HPO := Lib.hid hPO
                have HSD := Lib.hid hsd
                clear hPO hsd 
                obtain ⟨e0, e1⟩ := hsb
                generalize sinceD y m d = SD at *
                rcases O with _ | off
                · have hP0 : P = none := HPO.out
                  rw [show offV (none : Option Int) = .tuple #[.int .i64 0, .bool false] from rfl] at ho
                  subst hP0
                  clear HPO HSD hob
                  refine (ho _).mono ?_
                  rintro e w' ⟨rfl, rfl⟩
                  go_wp2_with fail
                  refine (hah _).mono ?_
                  rintro e w' ⟨rfl, rfl⟩
                  go_wp2_with fail
                  refine bodyPost_ret (v := Value.tuple #[.agg #[.int .i64 0, .int .i64 0], .int .i64 120]) ?_ rfl ⟨rfl, bt (bAl w _) (bAl w _).size (bAl _ _)⟩
                  rw [results_cell_tmp rfl]
                  exact load_day _ _ _ _ _ _ ((World.cell?_alloc_past _ _ _ (by simp)).trans (World.cell?_alloc_at _ _ _ _ rfl)) ((World.cell?_alloc_past _ _ _ (by simp)).trans (World.cell?_alloc_at _ _ _ _ rfl)) rfl rfl
                · obtain ⟨b0, b1⟩ := hob off rfl
                  rw [show offV (some off) = .tuple #[.int .i64 off, .bool true] from rfl] at ho
                  clear hob
                  refine (ho _).mono ?_
                  rintro e w' ⟨rfl, rfl⟩
                  go_wp2_with fail
                  refine (hah _).mono ?_
                  rintro e w' ⟨rfl, rfl⟩
                  go_wp2_with fail
                  obtain ⟨S, hS⟩ : ∃ S, 86400 * (SD + 60) + (3600 * h + 60 * mi + sec - 60 * off) = S := ⟨_, rfl⟩
                  rw [hS]
                  have hSE : secD y.toNat m.toNat d.toNat h.toNat mi.toNat sec.toNat off = S := by
                    go_light
                    (try simp only [bne_iff_ne, ne_eq, bne_eq_false_iff_eq, Bool.or_eq_false_iff, decide_eq_false_iff_not] at *)
                    unfold secD
                    rw [HSD.out]
                    omega
                  have hP2 : P = if okD S N0 = true then some (S, (N0 : Int)) else none := by
                    rw [HPO.out, Option.bind_some]
                    unfold endR
                    rw [hSE]
                    (try rfl)
                  clear hSE HPO HSD hS
                  refine (may_ref S N0 _).mono ?_
                  rintro e w2 ⟨rfl, hb⟩
                  have hbl := hb.block w.heap.size (by simp; omega)
                  have hbl1 := hb.block (w.heap.size + 1) (by simp)
                  have x0 : w2.cell? ⟨w.heap.size, 0, none⟩ = some (.int .i64 0) := (World.cell?_of_block (a := ⟨w.heap.size, 0, none⟩) hbl).trans ((World.cell?_alloc_past _ _ _ (by simp)).trans (World.cell?_alloc_at _ _ _ _ rfl))
                  have x1 : w2.cell? ⟨w.heap.size, 1, none⟩ = some (.int .i64 0) := (World.cell?_of_block (a := ⟨w.heap.size, 1, none⟩) hbl).trans ((World.cell?_alloc_past _ _ _ (by simp)).trans (World.cell?_alloc_at _ _ _ _ rfl))
                  have f0 : w2.frozen? ⟨w.heap.size, 0, none⟩ = false := (World.frozen?_of_block (a := ⟨w.heap.size, 0, none⟩) hbl).trans ((World.frozen?_alloc_past _ _ _ (by simp)).trans (World.frozen?_alloc_at _ _ _ _ rfl))
                  have f1 : w2.frozen? ⟨w.heap.size, 1, none⟩ = false := (World.frozen?_of_block (a := ⟨w.heap.size, 1, none⟩) hbl).trans ((World.frozen?_alloc_past _ _ _ (by simp)).trans (World.frozen?_alloc_at _ _ _ _ rfl))
                  have z0 : w2.cell? ⟨w.heap.size + 1, 0, none⟩ = some (.int .i64 S) := (World.cell?_of_block (a := ⟨w.heap.size + 1, 0, none⟩) hbl1).trans (World.cell?_alloc_at _ _ _ _ (by simp))
                  have z1 : w2.cell? ⟨w.heap.size + 1, 1, none⟩ = some (.int .i64 N0) := (World.cell?_of_block (a := ⟨w.heap.size + 1, 1, none⟩) hbl1).trans (World.cell?_alloc_at _ _ _ _ (by simp))
                  have HB := Lib.hid (bt (bt (bAl w (.cells #[.int .i64 0, .int .i64 0] 23)) (bAl w (.cells #[.int .i64 0, .int .i64 0] 23)).size (bAl _ _)) (by simp; omega) hb)
                  clear hb hbl hbl1
                  by_cases hok : okD S N0 = true
                  · rw [if_pos hok] at hP2
                    rw [hok]
                    subst hP2
                    clear hok
                    go_wp2_with fail
                    refine bodyPost_ret (v := Value.tuple #[.agg #[.int .i64 S, .int .i64 N0], .int .i64 0]) ?_ rfl ⟨rfl, (HB.out.setCell (by simp) _).setCell (by simp) _⟩
                    rw [results_cell_tmp rfl]
                    exact load_day _ _ _ _ _ _ (c_set0 x0 x1) (c_set1 x0 x1) rfl rfl
                  · rw [if_neg hok] at hP2
                    rw [show okD S N0 = false by simpa using hok]
                    subst hP2
                    clear hok
                    go_wp2_with fail
                    refine bodyPost_ret (v := Value.tuple #[.agg #[.int .i64 0, .int .i64 0], .int .i64 120]) ?_ rfl ⟨rfl, (HB.out.setCell (by simp) _).setCell (by simp) _⟩
                    rw [results_cell_tmp rfl]
                    exact load_day _ _ _ _ _ _ (c_set0 x0 x1) (c_set1 x0 x1) rfl rfl
        · have hk9' : ¬ (k : Int) < 9 := by omega
          have HM := Lib.hid hm
          clear hone hgo hm hn1
          go_wp2_with fail
          have hm := HM.out
          clear HM
          have hnm := fun W => number_ref s 20 k (by omega) hk9 hs W
          rw [HMANY.out k hkt] at hnm
          have hvb := HVB.out k hkt
          have hf0 := fun h : k = 0 => HFR0.out (hm.trans h)
          have hf1 := HFR.out k hm
          generalize valL ((s.data.toList.drop 20).take k) = v at *
          have HF0 := Lib.hid hf0
          have HF1 := Lib.hid hf1
          clear hf0 hf1
          refine (hnm _).mono ?_
          rintro e w' ⟨rfl, rfl⟩
          clear hnm
          go_wp2_with fail
          go_loop [11, 13] (fun n i => ∃ j : Nat, i = .int .i64 j ∧ k ≤ j ∧ j ≤ 9 ∧ n = .int .i64 ((v * 10 ^ (j - k) : Nat) : Int)) (fun _ i => 9 - (RowKit.intOf i).toNat)
          case atStart => exact ⟨k, rfl, Nat.le_refl _, hk9, by simp⟩
          case round =>
            obtain ⟨j, rfl, hkj, hj9, rfl⟩ := hrel
            have hpb := pow_bd v k j hkj hj9 hvb
            by_cases hlt : j < 9
            · exfalso; omega
            · obtain rfl : j = 9 := by omega
              clear hvb hj9
              generalize v * 10 ^ (9 - k) = N0 at *
              by_cases hk0 : k = 0
              · exfalso; omega
              · have hk0' : (((k : Nat) : Int) == 0) = false := by rw [beq_eq_false_iff_ne]; omega
                have hPO := HPT.out.trans (HF1.out hk0 _ _ _ _ _ _)
                have ho := fun W => offset_ref (s.extract (20 + k) s.size) (Nat.le_trans (by rw [ByteArray.size_extract]; omega) hs) W
                rw [ext_drop] at ho
                have hob := offR_bd (s.data.toList.drop (20 + k))
                clear HF0 HF1
                generalize offR (s.data.toList.drop (20 + k)) = O at *
                have HPO := Lib.hid hPO
                have hk20 : (20 : Int) + (k : Int) ≤ s.size := hk20L
                clear hPO
                go_wp2_with fail
                have hPO := HPO.out
                clear HPO
                have hsb := since_bd y m d (by omega) (by omega) (by omega) (by omega) (by omega) hd31
                have hsd : sinceD y.toNat m.toNat d.toNat = sinceD y m d := by rw [Int.toNat_of_nonneg (by omega), Int.toNat_of_nonneg (by omega), Int.toNat_of_nonneg (by omega)]
                have hah := fun W => ahead_refI y m d (by omega) (by omega) (by omega) (by omega) (by omega) hd31 W
                have HPO := Lib.hid hPO
                have HSD := Lib.hid hsd
                clear hPO hsd 
                obtain ⟨e0, e1⟩ := hsb
                generalize sinceD y m d = SD at *
                rcases O with _ | off
                · have hP0 : P = none := HPO.out
                  rw [show offV (none : Option Int) = .tuple #[.int .i64 0, .bool false] from rfl] at ho
                  subst hP0
                  clear HPO HSD hob
                  refine (ho _).mono ?_
                  rintro e w' ⟨rfl, rfl⟩
                  go_wp2_with fail
                  refine (hah _).mono ?_
                  rintro e w' ⟨rfl, rfl⟩
                  go_wp2_with fail
                  refine bodyPost_ret (v := Value.tuple #[.agg #[.int .i64 0, .int .i64 0], .int .i64 120]) ?_ rfl ⟨rfl, bt (bAl w _) (bAl w _).size (bAl _ _)⟩
                  rw [results_cell_tmp rfl]
                  exact load_day _ _ _ _ _ _ ((World.cell?_alloc_past _ _ _ (by simp)).trans (World.cell?_alloc_at _ _ _ _ rfl)) ((World.cell?_alloc_past _ _ _ (by simp)).trans (World.cell?_alloc_at _ _ _ _ rfl)) rfl rfl
                · obtain ⟨b0, b1⟩ := hob off rfl
                  rw [show offV (some off) = .tuple #[.int .i64 off, .bool true] from rfl] at ho
                  clear hob
                  refine (ho _).mono ?_
                  rintro e w' ⟨rfl, rfl⟩
                  go_wp2_with fail
                  refine (hah _).mono ?_
                  rintro e w' ⟨rfl, rfl⟩
                  go_wp2_with fail
                  obtain ⟨S, hS⟩ : ∃ S, 86400 * (SD + 60) + (3600 * h + 60 * mi + sec - 60 * off) = S := ⟨_, rfl⟩
                  rw [hS]
                  have hSE : secD y.toNat m.toNat d.toNat h.toNat mi.toNat sec.toNat off = S := by
                    go_light
                    (try simp only [bne_iff_ne, ne_eq, bne_eq_false_iff_eq, Bool.or_eq_false_iff, decide_eq_false_iff_not] at *)
                    unfold secD
                    rw [HSD.out]
                    omega
                  have hP2 : P = if okD S N0 = true then some (S, (N0 : Int)) else none := by
                    rw [HPO.out, Option.bind_some]
                    unfold endR
                    rw [hSE]
                    (try rfl)
                  clear hSE HPO HSD hS
                  refine (may_ref S N0 _).mono ?_
                  rintro e w2 ⟨rfl, hb⟩
                  have hbl := hb.block w.heap.size (by simp; omega)
                  have hbl1 := hb.block (w.heap.size + 1) (by simp)
                  have x0 : w2.cell? ⟨w.heap.size, 0, none⟩ = some (.int .i64 0) := (World.cell?_of_block (a := ⟨w.heap.size, 0, none⟩) hbl).trans ((World.cell?_alloc_past _ _ _ (by simp)).trans (World.cell?_alloc_at _ _ _ _ rfl))
                  have x1 : w2.cell? ⟨w.heap.size, 1, none⟩ = some (.int .i64 0) := (World.cell?_of_block (a := ⟨w.heap.size, 1, none⟩) hbl).trans ((World.cell?_alloc_past _ _ _ (by simp)).trans (World.cell?_alloc_at _ _ _ _ rfl))
                  have f0 : w2.frozen? ⟨w.heap.size, 0, none⟩ = false := (World.frozen?_of_block (a := ⟨w.heap.size, 0, none⟩) hbl).trans ((World.frozen?_alloc_past _ _ _ (by simp)).trans (World.frozen?_alloc_at _ _ _ _ rfl))
                  have f1 : w2.frozen? ⟨w.heap.size, 1, none⟩ = false := (World.frozen?_of_block (a := ⟨w.heap.size, 1, none⟩) hbl).trans ((World.frozen?_alloc_past _ _ _ (by simp)).trans (World.frozen?_alloc_at _ _ _ _ rfl))
                  have z0 : w2.cell? ⟨w.heap.size + 1, 0, none⟩ = some (.int .i64 S) := (World.cell?_of_block (a := ⟨w.heap.size + 1, 0, none⟩) hbl1).trans (World.cell?_alloc_at _ _ _ _ (by simp))
                  have z1 : w2.cell? ⟨w.heap.size + 1, 1, none⟩ = some (.int .i64 N0) := (World.cell?_of_block (a := ⟨w.heap.size + 1, 1, none⟩) hbl1).trans (World.cell?_alloc_at _ _ _ _ (by simp))
                  have HB := Lib.hid (bt (bt (bAl w (.cells #[.int .i64 0, .int .i64 0] 23)) (bAl w (.cells #[.int .i64 0, .int .i64 0] 23)).size (bAl _ _)) (by simp; omega) hb)
                  clear hb hbl hbl1
                  by_cases hok : okD S N0 = true
                  · rw [if_pos hok] at hP2
                    rw [hok]
                    subst hP2
                    clear hok
                    go_wp2_with fail
                    refine bodyPost_ret (v := Value.tuple #[.agg #[.int .i64 S, .int .i64 N0], .int .i64 0]) ?_ rfl ⟨rfl, (HB.out.setCell (by simp) _).setCell (by simp) _⟩
                    rw [results_cell_tmp rfl]
                    exact load_day _ _ _ _ _ _ (c_set0 x0 x1) (c_set1 x0 x1) rfl rfl
                  · rw [if_neg hok] at hP2
                    rw [show okD S N0 = false by simpa using hok]
                    subst hP2
                    clear hok
                    go_wp2_with fail
                    refine bodyPost_ret (v := Value.tuple #[.agg #[.int .i64 0, .int .i64 0], .int .i64 120]) ?_ rfl ⟨rfl, (HB.out.setCell (by simp) _).setCell (by simp) _⟩
                    rw [results_cell_tmp rfl]
                    exact load_day _ _ _ _ _ _ (c_set0 x0 x1) (c_set1 x0 x1) rfl rfl
end Go.Proofs.YtdaadoiedaplaaaDoor
