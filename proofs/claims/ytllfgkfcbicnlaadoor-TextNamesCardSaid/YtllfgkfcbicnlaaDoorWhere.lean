/- Contract of text.Where. Conditions: Go's two tables of utf8. -/
import Derived.Test.YtllfgkfcbicnlaaDoorCheck
import Derived.Laws.RangeString
import Derived.Laws.RangeAny
import Derived.Lib.RuneCount
import Derived.Deep.DeepCutAuto
namespace Go.Proofs.YtllfgkfcbicnlaaDoor
open Go.RowKit Go.Lib
theorem byt_get (s : ByteArray) (i : Nat) (h : i < s.size) : byt s i = s[i].toNat := by
  unfold byt
  congr 1
  show s.get! i = _
  simp [ByteArray.get!, getElem!_pos, h]
  rfl
/-- does a line end with this code point, behind which the place nx lies? -/
def endsB (s : ByteArray) (r nx : Nat) : Bool := r == 10 || (r == 13 && (nx == s.size || byt s nx != 10))
theorem ends_any (s : ByteArray) (r nx g : Nat) (w : World) (hc : w.cell? ⟨g, 0, none⟩ = some (.string s)) (hn : nx ≤ s.size) :
    Calls Tryd.prog 26 #[.int .i32 r, .int .i64 nx, .pointer (some ⟨g, 0, none⟩)] w fun e w' => e = .returned (.bool (endsB s r nx)) ∧ w' = w := by
  by_cases h1 : r = 10
  · subst h1
    have e1 : endsB s 10 nx = true := by simp [endsB]
    rw [e1]
    go_enter Tryd.func26, Tryd.ntmps26
    go_wp2
    go_ret
    exact ⟨rfl, rfl⟩
  · have q1 : ((r : Int) == 10) = false := by rw [beq_eq_false_iff_ne]; omega
    by_cases h2 : r = 13
    · subst h2
      by_cases h3 : nx = s.size
      · subst h3
        have e1 : endsB s 13 s.size = true := by simp [endsB]
        rw [e1]
        clear h1 q1
        go_enter Tryd.func26, Tryd.ntmps26
        go_wp2
        go_ret
        exact ⟨rfl, rfl⟩
      · have q3 : decide (nx = s.size) = false := by simpa using h3
        have q4 : ((nx : Int) == (s.size : Int)) = false := by rw [beq_eq_false_iff_ne]; omega
        have h4 : nx < s.size := by omega
        have e1 : endsB s 13 nx = (byt s nx != 10) := by simp [endsB, h3]
        rw [e1]
        clear h1 q1
        go_enter Tryd.func26, Tryd.ntmps26
        go_wp2
        go_ret
        refine ⟨ret_bool ?_, rfl⟩
        rw [byt_get s nx h4]
        rw [Bool.eq_iff_iff]
        simp
        omega
    · have q2 : ((r : Int) == 13) = false := by rw [beq_eq_false_iff_ne]; omega
      have e1 : endsB s r nx = false := by simp [endsB, h1, h2]
      rw [e1]
      go_enter Tryd.func26, Tryd.ntmps26
      go_wp2
      go_ret
      exact ⟨rfl, rfl⟩
theorem At.congr {B B' : Nat → Nat} {n n' i p k : Nat} (h : At B n i p k) (hb : ∀ t, t < k → B' (i + t) = B (i + t)) (hn : i + k ≤ n') : At B' n' i p k := by
  rcases h with ⟨rfl, h⟩ | ⟨rfl, h⟩ | ⟨rfl, h⟩ | ⟨rfl, h⟩
  · have b0 := hb 0 (by omega)
    exact .inl ⟨rfl, h.1, hn, by rw [Nat.add_zero] at b0; omega⟩
  · have b0 := hb 0 (by omega)
    have b1 := hb 1 (by omega)
    rw [Nat.add_zero] at b0
    exact .inr (.inl ⟨rfl, by omega, by omega, hn, by omega, by omega⟩)
  · have b0 := hb 0 (by omega)
    have b1 := hb 1 (by omega)
    have b2 := hb 2 (by omega)
    rw [Nat.add_zero] at b0
    exact .inr (.inr (.inl ⟨rfl, by omega, by omega, by omega, hn, by omega, by omega, by omega⟩))
  · have b0 := hb 0 (by omega)
    have b1 := hb 1 (by omega)
    have b2 := hb 2 (by omega)
    have b3 := hb 3 (by omega)
    rw [Nat.add_zero] at b0
    exact .inr (.inr (.inr ⟨rfl, by omega, by omega, hn, by omega, by omega, by omega, by omega⟩))
theorem byt_take (s : ByteArray) (a j : Nat) (h : j < a) : byt (s.extract 0 a) j = byt s j := by
  rw [byt_data, byt_data, extract_list, List.drop_zero]
  simp [List.getD_eq_getElem?_getD, h]
theorem size_take (s : ByteArray) (a : Nat) (h : a ≤ s.size) : (s.extract 0 a).size = a := by
  rw [← size_data, extract_list, List.drop_zero, List.length_take, size_data]
  omega
theorem Chain.take {s : ByteArray} {m k : Nat} {P X : Nat → Nat} (h : Chain (byt s) s.size m P X) (hk : k ≤ m) : Chain (byt (s.extract 0 (P k))) (s.extract 0 (P k)).size k P X := by
  have hle := h.mono hk (Nat.le_refl m)
  rw [h.2.1] at hle
  refine ⟨h.1, (size_take s _ hle).symm, fun i hi => ?_⟩
  have h1 := h.2.2 i (by omega)
  have h2 := h.mono (i := i + 1) (j := k) (by omega) hk
  refine ⟨h1.1, h1.2.congr (fun t ht => byt_take s _ _ (by omega)) (by rw [size_take s _ hle]; omega)⟩
theorem runeLen_at {B : Nat → Nat} {n i p k : Nat} (h : At B n i p k) : Lib.runeLen (p : Int) = k := by
  unfold Lib.runeLen
  rcases h with ⟨rfl, h⟩ | ⟨rfl, h⟩ | ⟨rfl, h⟩ | ⟨rfl, h⟩
  · rw [if_neg (by omega), if_pos (by omega)]; rfl
  · rw [if_neg (by omega), if_neg (by omega), if_pos (by omega)]; rfl
  · rw [if_neg (by omega), if_neg (by omega), if_neg (by omega), if_neg (by omega), if_pos (by omega)]; rfl
  · rw [if_neg (by omega), if_neg (by omega), if_neg (by omega), if_neg (by omega), if_neg (by omega), if_pos (by omega)]; rfl
/-- the line, the column ahead of code point k -/
def lcs (s : ByteArray) (P X : Nat → Nat) : Nat → Nat × Nat
  | 0 => (1, 1)
  | k + 1 => if endsB s (X k) (P (k + 1)) = true then ((lcs s P X k).1 + 1, 1) else ((lcs s P X k).1, (lcs s P X k).2 + 1)
theorem lcs_bd (s : ByteArray) (P X : Nat → Nat) : ∀ k, 1 ≤ (lcs s P X k).1 ∧ 1 ≤ (lcs s P X k).2 ∧ (lcs s P X k).1 ≤ k + 1 ∧ (lcs s P X k).2 ≤ k + 1
  | 0 => by simp [lcs]
  | k + 1 => by
    have ih := lcs_bd s P X k
    rw [lcs]
    split
    · exact ⟨by simp, by simp, by simp only; omega, by simp⟩
    · exact ⟨by simp only; omega, by simp, by simp only; omega, by simp only; omega⟩
theorem ends_at (s : ByteArray) (r a d g : Nat) (w : World) (hc : w.cell? ⟨g, 0, none⟩ = some (.string s)) (hn : a + d ≤ s.size) :
    Calls Tryd.prog 26 #[.int .i32 r, .int .i64 ((a : Int) + d), .pointer (some ⟨g, 0, none⟩)] w fun e w' => e = .returned (.bool (endsB s r (a + d))) ∧ w' = w := by
  have := ends_any s r (a + d) g w hc hn
  rwa [Int.natCast_add] at this
theorem start_at {B : Nat → Nat} {n i p k : Nat} (h : At B n i p k) : Lib.runeStart (B i : Int) = true := by
  unfold Lib.runeStart
  simp only [bne_iff_ne, ne_eq]
  rcases h with ⟨rfl, h⟩ | ⟨rfl, h⟩ | ⟨rfl, h⟩ | ⟨rfl, h⟩ <;> omega
set_option maxHeartbeats 4000000 in
theorem where_at (s : ByteArray) {m k : Nat} {P X : Nat → Nat} (hch : Chain (byt s) s.size m P X) (hz : s.size ≤ 16384) (hk : k ≤ m) (w : World) (hT : Tabs w) :
    Calls Tryd.prog 13 #[.string s, .int .i64 (P k : Nat)] w fun e w' => e = .returned (.tuple #[.int .i64 (lcs s P X k).1, .int .i64 (lcs s P X k).2, .int .i64 0]) ∧ Below w.heap.size w w' := by
  have hs : s.size ≤ maxLen := by unfold maxLen; omega
  have hck : checkV s = 0 := by
    unfold checkV
    rw [if_neg (by omega), if_pos hch.validD]
  have hcc := fun W (h : Tabs W) => check_any s W hs h
  rw [hck] at hcc
  have hle := hch.mono hk (Nat.le_refl m)
  rw [hch.2.1] at hle
  have hpre := hch.take hk
  have hsz := size_take s (P k) hle
  have hb0 : Below w.heap.size w (w.alloc (.cells #[.string s] 9)) := (Below.refl _ _).alloc (Nat.le_refl _) _
  have hT0 := hT.below hb0
  clear hck
  have hstep : ∀ j, j < k → ∃ d, 1 ≤ d ∧ P (j + 1) = P j + d ∧ P j + d ≤ P k ∧ Utf8.decode (s.extract 0 (P k)) (P j) = (X j, d) ∧ Lib.runeLen (X j : Nat) = d := by
    intro j hj
    have h1 := hpre.2.2 j hj
    have h2 := hpre.mono (i := j + 1) (j := k) (by omega) (Nat.le_refl _)
    refine ⟨P (j + 1) - P j, by omega, by omega, by omega, ?_, runeLen_at h1.2⟩
    rw [decode_dec, hpre.dec hj]
  have hlen : k ≤ 16384 := by have := hch.ge hk; omega
  have HZ := Lib.hid hsz
  have hsize : k < m ∧ P k < s.size ∧ Lib.runeStart (byt s (P k) : Nat) = true ∨ P k = s.size := by
    rcases Nat.lt_or_ge k m with g | g
    · exact .inl ⟨g, hch.lt g, start_at (hch.2.2 k g).2⟩
    · obtain rfl : k = m := by omega
      exact .inr hch.2.1
  have HP0 := Lib.hid hch.1
  have hsm : s.size ≤ 16384 := hz
  clear hch hpre hsz
  go_enter Tryd.func13, Tryd.ntmps13
  go_wp2_with fail
  refine (hcc _ hT0).mono ?_
  rintro e w1 ⟨rfl, hb1⟩
  have c1 : w1.cell? ⟨w.heap.size, 0, none⟩ = some (.string s) := (hb1.cell (p := ⟨w.heap.size, 0, none⟩) (by simp)).trans (World.cell?_alloc_at _ _ _ _ rfl)
  have hz1 := hb1.size
  simp only [World.size_alloc] at hz1
  have hB1 := hb0.trans (hb1.mono hb0.size)
  obtain ⟨a, ha⟩ : ∃ a, P k = a := ⟨_, rfl⟩
  have HA := Lib.hid ha
  rw [ha] at hle HZ hstep hsize ⊢
  have HS := Lib.hid hstep
  clear ha hstep hcc hb0 hT0 hb1
  have ha1 : ¬ (a : Int) < 0 := by omega
  have ha2 : ¬ (s.size : Int) < a := by omega
  have hT1 : Tabs w1 := hT.below hB1
  have HB1 := Lib.hid hB1
  go_upto_region 4 with fail
  go_cut [36] (fun v wx => v = .bool false ∧ wx = w1)
  case first =>
    rcases hsize with ⟨hkm, hlt, hst⟩ | heq
    · have hlt' : (a : Int) < s.size := by omega
      rw [byt_get s a hlt] at hst
      go_wp2_with fail
      refine (Tryd.utf8_RuneStart (s[a].toNat : Nat) w1 (by omega) (by have := UInt8.toNat_lt s[a]; omega)).mono ?_
      rintro e w2 ⟨rfl, rfl⟩
      rw [hst]
      clear hst
      go_wp2_with fail
      go_meet
      exact ⟨congrArg Value.bool (by simp; omega), rfl⟩
    · have hlt' : ¬ (a : Int) < s.size := by omega
      clear heq
      go_wp2_with fail
      go_meet
      exact ⟨congrArg Value.bool (by simp; omega), rfl⟩
  case rest =>
    obtain ⟨rfl, rfl⟩ := hcut
    clear hsize hT hT1
    go_wp2
    go_loopw [4, 5] (fun l c wr => ∃ j, j ≤ k ∧ l = .int .i64 (lcs s P X j).1 ∧ c = .int .i64 (lcs s P X j).2 ∧ wr = wc.iter (s.extract 0 a) (P j)) (fun _ _ wr => a - wr.iterPos wc.heap.size)
    case atStart => exact ⟨0, Nat.zero_le _, rfl, rfl, by rw [HP0.out]⟩
    case round =>
      obtain ⟨j, hj, rfl, rfl, rfl⟩ := hrel
      have hbd := lcs_bd s P X j
      by_cases hlt : j < k
      · obtain ⟨d, d1, d2, d3, d4, d5⟩ := HS.out j hlt
        have hp : P j < (s.extract 0 a).size := by rw [HZ.out]; omega
        have hnx : ∀ ty, (Instr.next (.pointer (some ⟨wc.heap.size, 0, none⟩)) true ty).run Tryd.prog (wc.iter (s.extract 0 a) (P j)) = .ok (.tuple #[.bool true, .int .i64 (P j : Nat), .int .i32 (X j : Nat)]) (wc.iter (s.extract 0 a) (P j + d)) := fun ty => by rw [run_next_any wc _ (P j) ty hp, d4]
        have hrl := fun W => Tryd.utf8_RuneLen (X j : Nat) W
        rw [d5] at hrl
        have D2 := Lib.hid d2
        have hPj : P j + d ≤ 16384 := by omega
        have hr1 : (lcs s P X j).1 ≤ 16385 := by omega
        have hr2 : (lcs s P X j).2 ≤ 16385 := by omega
        have hnext : lcs s P X (j + 1) = if endsB s (X j) (P j + d) = true then ((lcs s P X j).1 + 1, 1) else ((lcs s P X j).1, (lcs s P X j).2 + 1) := by rw [lcs, d2]
        obtain ⟨L, hL⟩ : ∃ L, (lcs s P X j).1 = L := ⟨_, rfl⟩
        obtain ⟨C, hC⟩ : ∃ C, (lcs s P X j).2 = C := ⟨_, rfl⟩
        rw [hL, hC] at hnext
        rw [hL] at hr1
        rw [hC] at hr2
        rw [hL, hC]
        have HN := Lib.hid hnext
        have c2 : ∀ p, (wc.iter (s.extract 0 a) p).cell? ⟨w.heap.size, 0, none⟩ = some (.string s) := fun p => (World.cell?_alloc_lt _ _ _ (show w.heap.size < wc.heap.size by omega)).trans c1
        have hend := ends_at s (X j) (P j) d w.heap.size (wc.iter (s.extract 0 a) (P j + d)) (c2 _) (by omega)
        clear d2 d4 d5 hnext hL hC hbd
        go_wp2_with fail
        refine (hrl _).mono ?_
        rintro e w2 ⟨rfl, rfl⟩
        clear hrl hnx
        go_wp2_with fail
        refine hend.mono ?_
        rintro e w3 ⟨rfl, rfl⟩
        clear hend
        cases hE : endsB s (X j) (P j + d) with
        | true =>
          have hn2 : lcs s P X (j + 1) = (L + 1, 1) := by rw [HN.out, if_pos hE]
          have HN2 := Lib.hid hn2
          clear hn2 hE
          go_wp2
          go_roundw
          case rel => exact ⟨j + 1, hlt, by rw [HN2.out]; go_num, by rw [HN2.out]; rfl, by rw [D2.out]⟩
          case measure => simp; omega
        | false =>
          have hn2 : lcs s P X (j + 1) = (L, C + 1) := by rw [HN.out, if_neg (by rw [hE]; simp)]
          have HN2 := Lib.hid hn2
          clear hn2 hE
          go_wp2
          go_roundw
          case rel => exact ⟨j + 1, hlt, by rw [HN2.out], by rw [HN2.out]; go_num, by rw [D2.out]⟩
          case measure => simp; omega
      · obtain rfl : j = k := by omega
        have hp : ¬ P j < (s.extract 0 a).size := by rw [HZ.out, HA.out]; omega
        have hnx : ∀ ty, (Instr.next (.pointer (some ⟨wc.heap.size, 0, none⟩)) true ty).run Tryd.prog (wc.iter (s.extract 0 a) (P j)) = _ := fun ty => run_next_end wc _ (P j) ty hp
        go_wp2
        go_ret3
        exact ⟨rfl, HB1.out.alloc HB1.out.size _⟩
end Go.Proofs.YtllfgkfcbicnlaaDoor
