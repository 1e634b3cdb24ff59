/- The reference's Text: the text of sixteen bytes. Conditions: there are sixteen of them, each a byte. -/
import Derived.Test.YtbigpcpifbjkfaaUuidCmp
import Derived.Laws.Concat
namespace Go.Proofs.Ytbigpcpifbjkfaa
open Go.RowKit Go.ChangeShapes Go.WideShapes Go.ChangeAt
def pos (k : Nat) : Nat := 2 * k + (if 3 < k then 1 else 0) + (if 5 < k then 1 else 0) + (if 7 < k then 1 else 0) + (if 9 < k then 1 else 0)
def brk (k : Nat) : Bool := k == 3 || k == 5 || k == 7 || k == 9
theorem pos_facts (k : Nat) (h : k < 16) : dash (pos k) = false ∧ dash (pos k + 1) = false ∧ cnt (pos k) = 2 * k ∧ cnt (pos k + 1) = 2 * k + 1 ∧ pos k + 2 ≤ 36 ∧
    (if brk k then dash (pos k + 2) = true ∧ pos (k + 1) = pos k + 3 ∧ pos k + 3 ≤ 36 else pos (k + 1) = pos k + 2) := by
  have : ∀ i : Fin 16, dash (pos i.1) = false ∧ dash (pos i.1 + 1) = false ∧ cnt (pos i.1) = 2 * i.1 ∧ cnt (pos i.1 + 1) = 2 * i.1 + 1 ∧ pos i.1 + 2 ≤ 36 ∧
    (if brk i.1 then dash (pos i.1 + 2) = true ∧ pos (i.1 + 1) = pos i.1 + 3 ∧ pos i.1 + 3 ≤ 36 else pos (i.1 + 1) = pos i.1 + 2) := by decide
  exact this ⟨k, h⟩
theorem hex_cut (d : Nat) (h : d < 16) : (⟨#[48, 49, 50, 51, 52, 53, 54, 55, 56, 57, 97, 98, 99, 100, 101, 102]⟩ : ByteArray).extract d (d + 1) = strOfNums [hexd d] := by
  have : ∀ i : Fin 16, (⟨#[48, 49, 50, 51, 52, 53, 54, 55, 56, 57, 97, 98, 99, 100, 101, 102]⟩ : ByteArray).extract i.1 (i.1 + 1) = strOfNums [hexd i.1] := by decide
  exact this ⟨d, h⟩
theorem txt_takes (xs : List Int) (n : Nat) (h : n ≤ 36) : (txt xs).take n = (List.range n).map (chr xs) := by
  rw [txt, ← List.map_take, List.take_range, Nat.min_eq_left h]
theorem str_app (a b : List Int) : strOfNums a ++ strOfNums b = strOfNums (a ++ b) := by
  apply ba_ext
  simp [Lib.toList_data, strOfNums]
theorem run_add (a b : List Int) (h : a.length + b.length ≤ 1000) (w : World) : (Op.stringOp .add (strOfNums a) (strOfNums b)).run Try.prog w = .ok (.string (strOfNums (a ++ b))) w := by
  rw [run_string_add_sum w _ _ (by rw [strOfNums_size, strOfNums_size]; omega), str_app]
theorem txt_step (xs : List Int) (k : Nat) (h : k < 16) : (txt xs).take (pos (k + 1)) = (txt xs).take (pos k) ++ [hexd (xs.getD k 0 / 16), hexd (xs.getD k 0 % 16)] ++ (if brk k then [45] else []) := by
  obtain ⟨h1, h2, h3, h4, h5, h6⟩ := pos_facts k h
  have e1 : chr xs (pos k) = hexd (xs.getD k 0 / 16) := by
    rw [chr, h1, h3, nib, if_neg (by simp), if_pos (by omega), show 2 * k / 2 = k by omega]
  have e2 : chr xs (pos k + 1) = hexd (xs.getD k 0 % 16) := by
    rw [chr, h2, h4, nib, if_neg (by simp), if_neg (by omega), show (2 * k + 1) / 2 = k by omega]
  cases hb : brk k with
  | false =>
    rw [hb] at h6
    simp only [Bool.false_eq_true, if_false] at h6 ⊢
    rw [h6, txt_takes _ _ h5, txt_takes _ _ (by omega), List.range_succ, List.range_succ]
    simp [e1, e2]
  | true =>
    rw [hb] at h6
    simp only [if_true] at h6 ⊢
    have e3 : chr xs (pos k + 2) = 45 := by rw [chr, h6.1, if_pos rfl]
    rw [h6.2.1, txt_takes _ _ h6.2.2, txt_takes _ _ (by omega), List.range_succ, List.range_succ, List.range_succ]
    simp [e1, e2, e3]
theorem reftext_any (xs : List Int) (w : World) (hl : xs.length = 16) (hb9 : ∀ x ∈ xs, 0 ≤ x ∧ x < 256) :
    Calls Try.prog 15 #[.agg (av xs)] w fun e w' => e = .returned (.string (strOfNums (txt xs))) ∧ Below w.heap.size w w' := by
  have hz : (w.alloc (.cells (av xs) 22)).heap.size = w.heap.size + 1 := by simp
  have hb0 : Below w.heap.size w (w.alloc (.cells (av xs) 22)) := (Below.refl _ _).alloc (Nat.le_refl _) _
  have c1 : (w.alloc (.cells (av xs) 22)).heap[w.heap.size]? = some (.cells (av xs) 22) := heap_alloc_new _ _
  go_enter Try.func15, Try.ntmps15
  go_wp2
  go_loopw [3, 4] (fun s i wr => ∃ k : Nat, k ≤ 16 ∧ i = .int .i64 k ∧ s = .string (strOfNums ((txt xs).take (pos k))) ∧ Below (w.heap.size + 1) (w.alloc (.cells (av xs) 22)) wr) (fun _ i _ => 16 - (intOf i).toNat)
  case atStart => exact ⟨0, by omega, rfl, rfl, Below.refl _ _⟩
  case round =>
    obtain ⟨k, hk, rfl, rfl, hbr⟩ := hrel
    by_cases hlt : k < 16
    · have e1 : wr.heap[w.heap.size]? = some (.cells (av xs) 22) := by rw [hbr.block _ (by omega)]; exact c1
      have q1 := av_cell e1 k (by omega)
      have hst := txt_step xs k hlt
      have hbx := hb9 (xs.getD k 0) (by rw [List.getD, List.getElem?_eq_getElem (show k < xs.length by omega)]; exact List.getElem_mem _)
      obtain ⟨x, hx⟩ : ∃ x, xs.getD k 0 = x := ⟨_, rfl⟩
      rw [hx] at q1 hst hbx
      have k1 := hex_cut (x / 16).toNat (by omega)
      have k2 := hex_cut (x % 16).toNat (by omega)
      rw [Int.toNat_of_nonneg (by omega)] at k1 k2
      have hs : ∀ (d : Int), 0 ≤ d → d < 16 → ∀ W : World, (Instr.slice 9 (.string ⟨#[48, 49, 50, 51, 52, 53, 54, 55, 56, 57, 97, 98, 99, 100, 101, 102]⟩) (some (.int .u8 d)) (some (.int .u8 (d + 1))) none).run Try.prog W = .ok (.string (strOfNums [hexd d])) W := by
        intro d h0 h1 W
        rw [run_slice_string W 9 _ .u8 .u8 d (d + 1) Try.underlying9 h0 (by omega) (by show d + 1 ≤ ((16 : Nat) : Int); omega)]
        have := hex_cut d.toNat (by omega)
        rw [Int.toNat_of_nonneg h0] at this
        rw [show (d + 1).toNat = d.toNat + 1 by omega, this]
      have hs1 := hs (x / 16) (by omega) (by omega)
      have hs2 := hs (x % 16) (by omega) (by omega)
      have hl3 : ((txt xs).take (pos k)).length ≤ 36 := by rw [List.length_take]; have := txt_len xs; omega
      obtain ⟨T, hT⟩ : ∃ T, (txt xs).take (pos k) = T := ⟨_, rfl⟩
      obtain ⟨p, hp⟩ : ∃ p, hexd (x / 16) = p := ⟨_, rfl⟩
      obtain ⟨q, hq⟩ : ∃ q, hexd (x % 16) = q := ⟨_, rfl⟩
      rw [hT, hp, hq] at hst
      rw [hT] at hl3
      rw [hp] at hs1
      rw [hq] at hs2
      obtain ⟨U, hU⟩ : ∃ U, T ++ [p, q] = U := ⟨_, rfl⟩
      obtain ⟨V, hV⟩ : ∃ V, U ++ [45] = V := ⟨_, rfl⟩
      have ha1 : ∀ W : World, (Op.stringOp .add (strOfNums [p]) (strOfNums [q])).run Try.prog W = .ok (.string (strOfNums [p, q])) W := run_add [p] [q] (by simp)
      have ha2 := run_add T [p, q] (by simp only [List.length_cons, List.length_nil]; omega)
      have ha3 := run_add U [45] (by rw [← hU]; simp only [List.length_append, List.length_cons, List.length_nil]; omega)
      replace ha3 : ∀ W : World, (Op.stringOp .add (strOfNums U) ⟨#[45]⟩).run Try.prog W = .ok (.string (strOfNums (U ++ [45]))) W := ha3
      rw [hU] at ha2 hst
      rw [hV] at ha3
      have hst1 : brk k = false → (txt xs).take (pos (k + 1)) = U := by intro h; rw [hst, h]; simp
      have hst2 : brk k = true → (txt xs).take (pos (k + 1)) = V := by intro h; rw [hst, h, ← hV]; rfl
      clear hst hU hV hp hq
      clear hs k1 k2 hz hb0 c1 hx e1
      go_wp2
      go_region
      by_cases hbk : brk k = true
      · have hfin := hst2 hbk
        clear hst1 hst2
        have hk4 : k = 3 ∨ k = 5 ∨ k = 7 ∨ k = 9 := by simpa [brk, or_assoc] using hbk
        rcases hk4 with rfl | rfl | rfl | rfl
        all_goals go_wp2
        all_goals first | exact ⟨⟨4, by omega, rfl, by rw [← hfin], hbr.drew⟩, by simp [intOf]⟩ | exact ⟨⟨6, by omega, rfl, by rw [← hfin], hbr.drew⟩, by simp [intOf]⟩ | exact ⟨⟨8, by omega, rfl, by rw [← hfin], hbr.drew⟩, by simp [intOf]⟩ | exact ⟨⟨10, by omega, rfl, by rw [← hfin], hbr.drew⟩, by simp [intOf]⟩
      · have hfin := hst1 (by simpa using hbk)
        clear hst1 hst2
        have n1 : ((k : Int) == 3) = false := by rw [beq_eq_false_iff_ne]; intro h; exact hbk (by rw [show k = 3 by omega]; rfl)
        have n2 : ((k : Int) == 5) = false := by rw [beq_eq_false_iff_ne]; intro h; exact hbk (by rw [show k = 5 by omega]; rfl)
        have n3 : ((k : Int) == 7) = false := by rw [beq_eq_false_iff_ne]; intro h; exact hbk (by rw [show k = 7 by omega]; rfl)
        have n4 : ((k : Int) == 9) = false := by rw [beq_eq_false_iff_ne]; intro h; exact hbk (by rw [show k = 9 by omega]; rfl)
        go_wp2
        exact ⟨⟨k + 1, hlt, by go_num, by rw [hfin], hbr.drew⟩, by simp [intOf]; omega⟩
    · obtain rfl : k = 16 := by omega
      go_wp2
      go_ret
      refine ⟨ret_str ?_, hb0.trans (hbr.mono (by omega))⟩
      rw [List.take_of_length_le (by rw [txt_len]; decide)]
end Go.Proofs.Ytbigpcpifbjkfaa
