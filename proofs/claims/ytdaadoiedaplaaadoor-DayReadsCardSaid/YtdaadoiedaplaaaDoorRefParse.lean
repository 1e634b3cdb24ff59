/- The reference's Parse, in plain words. Conditions: the text's length within the model's. -/
import Derived.Test.YtdaadoiedaplaaaDoorReadsPlain
import Derived.Deep.Light
namespace Go.Proofs.YtdaadoiedaplaaaDoor
open Go.RowKit Go.Lib
theorem days_refI (y m : Int) (h0 : 0 ≤ y) (h1 : y ≤ 9999) (m1 : 1 ≤ m) (m2 : m ≤ 12) (w : World) : Calls Tryd.prog 30 #[.int .i64 y, .int .i64 m] w fun e w' => e = .returned (.int .i64 (dim y m)) ∧ w = w' := by
  have := days_ref y.toNat m.toNat (by omega) (by omega) (by omega) w
  rw [Int.toNat_of_nonneg h0, Int.toNat_of_nonneg (by omega)] at this
  exact this
theorem ahead_refI (y m d : Int) (h0 : 0 ≤ y) (h1 : y ≤ 9999) (m1 : 1 ≤ m) (m2 : m ≤ 12) (d1 : 1 ≤ d) (d2 : d ≤ 31) (w : World) : Calls Tryd.prog 32 #[.int .i64 y, .int .i64 m, .int .i64 d] w fun e w' => e = .returned (.int .i64 (sinceD y m d + 60)) ∧ w = w' := by
  have := ahead_ref y.toNat m.toNat d.toNat (by omega) (by omega) (by omega) (by omega) (by omega) w
  rw [Int.toNat_of_nonneg h0, Int.toNat_of_nonneg (by omega), Int.toNat_of_nonneg (by omega)] at this
  exact this
theorem getD_at (s : ByteArray) (k : Nat) (h : k < s.size) : s.data.toList.getD k 0 = s[k] := by
  rw [List.getD_eq_getElem?_getD, List.getElem?_eq_getElem (by rw [ba_len]; exact h)]; simp; rfl
set_option maxHeartbeats 8000000 in
set_option maxRecDepth 100000 in
theorem parse_short (s : ByteArray) (w : World) (hs : s.size ≤ maxLen) (h20 : s.size < 20) : Calls Tryd.prog 11 #[.string s] w fun e w' => e = .returned (pv none) ∧ Below w.heap.size w w' := by
  have n1 := fun W => number_ref s 0 4 (by omega) (by omega) hs W
  have n2 := fun W => number_ref s 5 2 (by omega) (by omega) hs W
  have n3 := fun W => number_ref s 8 2 (by omega) (by omega) hs W
  have n4 := fun W => number_ref s 11 2 (by omega) (by omega) hs W
  have n5 := fun W => number_ref s 14 2 (by omega) (by omega) hs W
  have n6 := fun W => number_ref s 17 2 (by omega) (by omega) hs W
  generalize numR s.data.toList 0 4 = y at *
  generalize numR s.data.toList 5 2 = m at *
  generalize numR s.data.toList 8 2 = d at *
  generalize numR s.data.toList 11 2 = h at *
  generalize numR s.data.toList 14 2 = mi at *
  generalize numR s.data.toList 17 2 = sec at *
  have hlt : (s.size : Int) < 20 := by omega
  go_enter Tryd.func11, Tryd.ntmps11
  go_wp2_with fail
  refine (n1 _).mono ?_
  rintro e w' ⟨rfl, rfl⟩
  go_wp2_with fail
  refine (n2 _).mono ?_
  rintro e w' ⟨rfl, rfl⟩
  go_wp2_with fail
  refine (n3 _).mono ?_
  rintro e w' ⟨rfl, rfl⟩
  go_wp2_with fail
  refine (n4 _).mono ?_
  rintro e w' ⟨rfl, rfl⟩
  go_wp2_with fail
  refine (n5 _).mono ?_
  rintro e w' ⟨rfl, rfl⟩
  go_wp2_with fail
  refine (n6 _).mono ?_
  rintro e w' ⟨rfl, rfl⟩
  go_wp2_with fail
  refine bodyPost_ret (v := Value.tuple #[.agg #[.int .i64 0, .int .i64 0], .int .i64 120]) ?_ rfl ⟨rfl, ?_⟩
  · rw [results_cell_tmp rfl]
    exact load_day _ _ _ _ _ _ (World.cell?_alloc_at _ _ _ _ rfl) (World.cell?_alloc_at _ _ _ _ rfl) rfl rfl
  · exact bAl w _
theorem offR_bd (l : List UInt8) (o : Int) (h : offR l = some o) : -1439 ≤ o ∧ o ≤ 1439 := by
  unfold offR at h
  split at h
  · cases h; omega
  · split at h
    · unfold off6 at h
      split at h
      · rename_i hq
        have := Option.some.inj h
        split at this <;> omega
      · cases h
    · cases h
theorem sec_bd (y m d : Nat) (y1 : y ≤ 9999) (m0 : 1 ≤ m) (m1 : m ≤ 12) (d0 : 1 ≤ d) (d1 : d ≤ 31) :
    -100 ≤ sinceD y m d ∧ sinceD y m d ≤ 4000000 := since_bd y m d (by omega) (by omega) (by omega) (by omega) (by omega) (by omega)
theorem c_store {W : World} {t : TypeId} {a b : Value} : (W.alloc (.cells #[a, b] t)).cell? ⟨W.heap.size, 0, none⟩ = some a ∧ (W.alloc (.cells #[a, b] t)).cell? ⟨W.heap.size, 1, none⟩ = some b := ⟨World.cell?_alloc_at _ _ _ _ rfl, World.cell?_alloc_at _ _ _ _ rfl⟩

set_option maxHeartbeats 16000000 in
set_option maxRecDepth 100000 in
theorem parse_plain (s : ByteArray) (w : World) (hs : s.size ≤ maxLen) (h20 : 20 ≤ s.size) (h19 : (((s[19]'(Nat.lt_of_lt_of_le (by decide) h20)).toNat : Int) == 46) = false) : Calls Tryd.prog 11 #[.string s] w fun e w' => e = .returned (pv (parseR s.data.toList)) ∧ Below w.heap.size w w' := by
  have hlen := ba_len s
  obtain ⟨P, hP⟩ : ∃ P, parseR s.data.toList = P := ⟨_, rfl⟩
  rw [hP]
  have hB : bytesR s.data.toList ↔ ((s[4]'(Nat.lt_of_lt_of_le (by decide) h20)).toNat = 45 ∧ (s[7]'(Nat.lt_of_lt_of_le (by decide) h20)).toNat = 45 ∧ ((s[10]'(Nat.lt_of_lt_of_le (by decide) h20)).toNat = 84 ∨ (s[10]'(Nat.lt_of_lt_of_le (by decide) h20)).toNat = 116) ∧ (s[13]'(Nat.lt_of_lt_of_le (by decide) h20)).toNat = 58 ∧ (s[16]'(Nat.lt_of_lt_of_le (by decide) h20)).toNat = 58) := by
    unfold bytesR
    rw [getD_at s 4 (by omega), getD_at s 7 (by omega), getD_at s 10 (by omega), getD_at s 13 (by omega), getD_at s 16 (by omega)]
    omega
  unfold parseR at hP
  have n_y := fun W => number_ref s 0 4 (by omega) (by omega) hs W
  obtain ⟨y0, y1⟩ := numR_bd4 s.data.toList 0
  have n_m := fun W => number_ref s 5 2 (by omega) (by omega) hs W
  obtain ⟨m0, m1⟩ := numR_bd s.data.toList 5
  have n_d := fun W => number_ref s 8 2 (by omega) (by omega) hs W
  obtain ⟨d0, d1⟩ := numR_bd s.data.toList 8
  have n_h := fun W => number_ref s 11 2 (by omega) (by omega) hs W
  obtain ⟨h0, h1⟩ := numR_bd s.data.toList 11
  have n_mi := fun W => number_ref s 14 2 (by omega) (by omega) hs W
  obtain ⟨mi0, mi1⟩ := numR_bd s.data.toList 14
  have n_sec := fun W => number_ref s 17 2 (by omega) (by omega) hs W
  obtain ⟨sec0, sec1⟩ := numR_bd s.data.toList 17
  generalize numR s.data.toList 0 4 = y at *
  generalize numR s.data.toList 5 2 = m at *
  generalize numR s.data.toList 8 2 = d at *
  generalize numR s.data.toList 11 2 = h at *
  generalize numR s.data.toList 14 2 = mi at *
  generalize numR s.data.toList 17 2 = sec at *
  have hbad : ¬ ((s[4]'(Nat.lt_of_lt_of_le (by decide) h20)).toNat = 45 ∧ (s[7]'(Nat.lt_of_lt_of_le (by decide) h20)).toNat = 45 ∧ ((s[10]'(Nat.lt_of_lt_of_le (by decide) h20)).toNat = 84 ∨ (s[10]'(Nat.lt_of_lt_of_le (by decide) h20)).toNat = 116) ∧ (s[13]'(Nat.lt_of_lt_of_le (by decide) h20)).toNat = 58 ∧ (s[16]'(Nat.lt_of_lt_of_le (by decide) h20)).toNat = 58 ∧ numsR y m d h mi sec) → P = none := by
    intro hq
    rw [← hP, if_neg]
    rintro ⟨h5, h6⟩
    obtain ⟨h1, h2, h3, h4, h5⟩ := hB.1 h5
    exact hq ⟨h1, h2, h3, h4, h5, h6⟩
  have hgood : ((s[4]'(Nat.lt_of_lt_of_le (by decide) h20)).toNat = 45 ∧ (s[7]'(Nat.lt_of_lt_of_le (by decide) h20)).toNat = 45 ∧ ((s[10]'(Nat.lt_of_lt_of_le (by decide) h20)).toNat = 84 ∨ (s[10]'(Nat.lt_of_lt_of_le (by decide) h20)).toNat = 116) ∧ (s[13]'(Nat.lt_of_lt_of_le (by decide) h20)).toNat = 58 ∧ (s[16]'(Nat.lt_of_lt_of_le (by decide) h20)).toNat = 58 ∧ numsR y m d h mi sec) → P = tailR y.toNat m.toNat d.toNat h.toNat mi.toNat sec.toNat s.data.toList := by
    rintro ⟨h1, h2, h3, h4, h5, h6⟩
    rw [← hP, if_pos ⟨hB.2 ⟨h1, h2, h3, h4, h5⟩, h6⟩]
  unfold numsR at hbad hgood
  have hdy := fun W (a : 0 ≤ y) (b : 1 ≤ m) (c : m ≤ 12) => days_refI y m a (by omega) b c W
  have HDM := Lib.hid (fun (a : 1 ≤ m) (b : m ≤ 12) => dim_bd y m a b)
  generalize dim y m = D at *
  have HBad := Lib.hid hbad
  have HGood := Lib.hid hgood
  have H20 : ((s.size : Int) < 20) = False := by simp; omega
  clear hP hbad hgood hB
  have hfr : fracR s.data.toList = some (0, 19) := by
    unfold fracR
    rw [if_neg]
    rw [getD_at s 19 (by omega)]
    intro e
    rw [beq_eq_false_iff_ne] at h19
    exact h19 (by rw [e]; rfl)
  have ho := fun W => offset_ref (s.extract 19 s.size) (Nat.le_trans (by rw [ByteArray.size_extract]; omega) hs) W
  rw [ext_drop] at ho
  have hob := offR_bd (s.data.toList.drop 19)
  have hG2 : ∀ y m d h mi sec : Nat, tailR y m d h mi sec s.data.toList = (offR (s.data.toList.drop 19)).bind (endR y m d h mi sec 0) := fun y m d h mi sec => by unfold tailR; rw [hfr]; rfl
  have hgood2 := fun q => (HGood.out q).trans (hG2 _ _ _ _ _ _)
  clear HGood
  generalize offR (s.data.toList.drop 19) = O at *
  have HGood := Lib.hid hgood2
  clear hgood2 hG2 hfr
  go_enter Tryd.func11, Tryd.ntmps11
  go_wp2_with fail
  refine (n_y _).mono ?_
  rintro e w' ⟨rfl, rfl⟩
  go_wp2_with fail
  refine (n_m _).mono ?_
  rintro e w' ⟨rfl, rfl⟩
  go_wp2_with fail
  refine (n_d _).mono ?_
  rintro e w' ⟨rfl, rfl⟩
  go_wp2_with fail
  refine (n_h _).mono ?_
  rintro e w' ⟨rfl, rfl⟩
  go_wp2_with fail
  refine (n_mi _).mono ?_
  rintro e w' ⟨rfl, rfl⟩
  go_wp2_with fail
  refine (n_sec _).mono ?_
  rintro e w' ⟨rfl, rfl⟩
  go_wp2_with fail
  all_goals first
    | (refine bodyPost_ret (v := Value.tuple #[.agg #[.int .i64 0, .int .i64 0], .int .i64 120]) ?_ rfl ⟨?_, ?_⟩
       · rw [results_cell_tmp rfl]
         exact load_day _ _ _ _ _ _ (World.cell?_alloc_at _ _ _ _ rfl) (World.cell?_alloc_at _ _ _ _ rfl) rfl rfl
       · go_light
         (try simp only [bne_iff_ne, ne_eq, bne_eq_false_iff_eq] at *)
         rw [HBad.out (by omega)]
         rfl
       · exact bAl w _)
    | skip
  all_goals
    refine (hdy _ (by omega) (by omega) (by omega)).mono ?_
    rintro e w' ⟨rfl, rfl⟩
    clear n_y n_m n_d n_h n_mi n_sec hdy
    go_wp2_with fail
    all_goals first
      | (refine bodyPost_ret (v := Value.tuple #[.agg #[.int .i64 0, .int .i64 0], .int .i64 120]) ?_ rfl ⟨?_, ?_⟩
         · rw [results_cell_tmp rfl]
           exact load_day _ _ _ _ _ _ (World.cell?_alloc_at _ _ _ _ rfl) (World.cell?_alloc_at _ _ _ _ rfl) rfl rfl
         · go_light
           (try simp only [bne_iff_ne, ne_eq, bne_eq_false_iff_eq] at *)
           rw [HBad.out (by omega)]
           rfl
         · exact bAl w _)
      | skip
    have hd31 : d ≤ 31 := by
      go_light
      (try simp only [bne_iff_ne, ne_eq, bne_eq_false_iff_eq, Bool.or_eq_false_iff, decide_eq_false_iff_not] at *)
      have := HDM.out (by omega) (by omega)
      omega
    have hPO : P = O.bind (endR y.toNat m.toNat d.toNat h.toNat mi.toNat sec.toNat 0) := by
      go_light
      (try simp only [bne_iff_ne, ne_eq, bne_eq_false_iff_eq, Bool.or_eq_false_iff, decide_eq_false_iff_not] at *)
      exact HGood.out (by omega)
    have hsb := since_bd y m d (by omega) (by omega) (by omega) (by omega) (by omega) hd31
    have hsd : sinceD y.toNat m.toNat d.toNat = sinceD y m d := by rw [Int.toNat_of_nonneg (by omega), Int.toNat_of_nonneg (by omega), Int.toNat_of_nonneg (by omega)]
    have hah := fun W => ahead_refI y m d (by omega) (by omega) (by omega) (by omega) (by omega) hd31 W
    have HPO := Lib.hid hPO
    have HSD := Lib.hid hsd
    clear hPO hsd HGood HBad
    obtain ⟨e0, e1⟩ := hsb
    generalize sinceD y m d = SD at *
    rcases O with _ | off
    · have hP0 : P = none := HPO.out
      rw [show offV (none : Option Int) = .tuple #[.int .i64 0, .bool false] from rfl] at ho
      subst hP0
      clear HPO HSD hob
      refine (ho _).mono ?_
      rintro e w' ⟨rfl, rfl⟩
      go_wp2_with fail
      refine (hah _).mono ?_
      rintro e w' ⟨rfl, rfl⟩
      go_wp2_with fail
      refine bodyPost_ret (v := Value.tuple #[.agg #[.int .i64 0, .int .i64 0], .int .i64 120]) ?_ rfl ⟨rfl, bt (bAl w _) (bAl w _).size (bAl _ _)⟩
      rw [results_cell_tmp rfl]
      exact load_day _ _ _ _ _ _ ((World.cell?_alloc_past _ _ _ (by simp)).trans (World.cell?_alloc_at _ _ _ _ rfl)) ((World.cell?_alloc_past _ _ _ (by simp)).trans (World.cell?_alloc_at _ _ _ _ rfl)) rfl rfl
    · obtain ⟨b0, b1⟩ := hob off rfl
      rw [show offV (some off) = .tuple #[.int .i64 off, .bool true] from rfl] at ho
      clear hob
      refine (ho _).mono ?_
      rintro e w' ⟨rfl, rfl⟩
      go_wp2_with fail
      refine (hah _).mono ?_
      rintro e w' ⟨rfl, rfl⟩
      go_wp2_with fail
      obtain ⟨S, hS⟩ : ∃ S, 86400 * (SD + 60) + (3600 * h + 60 * mi + sec - 60 * off) = S := ⟨_, rfl⟩
      rw [hS]
      have hSE : secD y.toNat m.toNat d.toNat h.toNat mi.toNat sec.toNat off = S := by
        go_light
        (try simp only [bne_iff_ne, ne_eq, bne_eq_false_iff_eq, Bool.or_eq_false_iff, decide_eq_false_iff_not] at *)
        unfold secD
        rw [HSD.out]
        omega
      have hP2 : P = if okD S 0 = true then some (S, (0 : Int)) else none := by
        rw [HPO.out, Option.bind_some]
        unfold endR
        rw [hSE]
        (try rfl)
      clear hSE HPO HSD hS
      refine (may_ref S 0 _).mono ?_
      rintro e w2 ⟨rfl, hb⟩
      have hbl := hb.block w.heap.size (by simp; omega)
      have hbl1 := hb.block (w.heap.size + 1) (by simp)
      have x0 : w2.cell? ⟨w.heap.size, 0, none⟩ = some (.int .i64 0) := (World.cell?_of_block (a := ⟨w.heap.size, 0, none⟩) hbl).trans ((World.cell?_alloc_past _ _ _ (by simp)).trans (World.cell?_alloc_at _ _ _ _ rfl))
      have x1 : w2.cell? ⟨w.heap.size, 1, none⟩ = some (.int .i64 0) := (World.cell?_of_block (a := ⟨w.heap.size, 1, none⟩) hbl).trans ((World.cell?_alloc_past _ _ _ (by simp)).trans (World.cell?_alloc_at _ _ _ _ rfl))
      have f0 : w2.frozen? ⟨w.heap.size, 0, none⟩ = false := (World.frozen?_of_block (a := ⟨w.heap.size, 0, none⟩) hbl).trans ((World.frozen?_alloc_past _ _ _ (by simp)).trans (World.frozen?_alloc_at _ _ _ _ rfl))
      have f1 : w2.frozen? ⟨w.heap.size, 1, none⟩ = false := (World.frozen?_of_block (a := ⟨w.heap.size, 1, none⟩) hbl).trans ((World.frozen?_alloc_past _ _ _ (by simp)).trans (World.frozen?_alloc_at _ _ _ _ rfl))
      have z0 : w2.cell? ⟨w.heap.size + 1, 0, none⟩ = some (.int .i64 S) := (World.cell?_of_block (a := ⟨w.heap.size + 1, 0, none⟩) hbl1).trans (World.cell?_alloc_at _ _ _ _ (by simp))
      have z1 : w2.cell? ⟨w.heap.size + 1, 1, none⟩ = some (.int .i64 0) := (World.cell?_of_block (a := ⟨w.heap.size + 1, 1, none⟩) hbl1).trans (World.cell?_alloc_at _ _ _ _ (by simp))
      have HB := Lib.hid (bt (bt (bAl w (.cells #[.int .i64 0, .int .i64 0] 23)) (bAl w (.cells #[.int .i64 0, .int .i64 0] 23)).size (bAl _ _)) (by simp; omega) hb)
      clear hb hbl hbl1
      by_cases hok : okD S 0 = true
      · rw [if_pos hok] at hP2
        rw [hok]
        subst hP2
        clear hok
        go_wp2_with fail
        refine bodyPost_ret (v := Value.tuple #[.agg #[.int .i64 S, .int .i64 0], .int .i64 0]) ?_ rfl ⟨rfl, (HB.out.setCell (by simp) _).setCell (by simp) _⟩
        rw [results_cell_tmp rfl]
        exact load_day _ _ _ _ _ _ (c_set0 x0 x1) (c_set1 x0 x1) rfl rfl
      · rw [if_neg hok] at hP2
        rw [show okD S 0 = false by simpa using hok]
        subst hP2
        clear hok
        go_wp2_with fail
        refine bodyPost_ret (v := Value.tuple #[.agg #[.int .i64 0, .int .i64 0], .int .i64 120]) ?_ rfl ⟨rfl, (HB.out.setCell (by simp) _).setCell (by simp) _⟩
        rw [results_cell_tmp rfl]
        exact load_day _ _ _ _ _ _ (c_set0 x0 x1) (c_set1 x0 x1) rfl rfl
end Go.Proofs.YtdaadoiedaplaaaDoor
