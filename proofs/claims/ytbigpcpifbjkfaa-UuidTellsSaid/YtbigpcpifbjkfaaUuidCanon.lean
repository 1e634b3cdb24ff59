/- Canon, uuid's and the reference's: a text in one way. Conditions: none but that the text is one. -/
import Derived.Test.YtbigpcpifbjkfaaUuidParse
namespace Go.Proofs.Ytbigpcpifbjkfaa
open Go.RowKit Go.ChangeShapes Go.WideShapes Go.ChangeAt
def canon (s : ByteArray) : ByteArray := if (parsed s).2 = 0 then strOfNums (txt (parsed s).1) else ⟨#[]⟩
theorem parsed_facts (s : ByteArray) : ∃ xs n, parsed s = (xs, n) ∧ xs.length = 16 ∧ (∀ x ∈ xs, 0 ≤ x ∧ x < 256) ∧ (n = 0 ∨ n = 130) := by
  by_cases h : s.size = 36 ∧ okAll s = true
  · refine ⟨dec s, 0, by rw [parsed, if_pos h], dec_len s, ?_, .inl rfl⟩
    intro x hx
    simp only [dec, List.mem_map, List.mem_range] at hx
    obtain ⟨k, hk, rfl⟩ := hx
    obtain ⟨p1, p2, _, _, p5, _⟩ := pos_facts k hk
    have hall := List.all_eq_true.1 h.2
    have o1 := hall (pos k) (by simp; omega)
    have o2 := hall (pos k + 1) (by simp; omega)
    rw [okAt, p1] at o1
    rw [okAt, p2] at o2
    simp only [Bool.false_eq_true, if_false, decide_eq_true_eq] at o1 o2
    have := dig_lt (ch s (pos k))
    have := dig_lt (ch s (pos k + 1))
    omega
  · refine ⟨zero16, 130, by rw [parsed, if_neg h], rfl, ?_, .inr rfl⟩
    intro x hx
    simp only [zero16, List.mem_replicate] at hx
    omega
theorem canon_any (s : ByteArray) (w : World) :
    Calls Try.prog 10 #[.string s] w fun e w' => e = .returned (.tuple #[.string (canon s), .int .i64 (parsed s).2]) ∧ Below w.heap.size w w' := by
  obtain ⟨xs, n, hx, hl, h9, hn⟩ := parsed_facts s
  have hcan : canon s = if n = 0 then strOfNums (txt xs) else ⟨#[]⟩ := by rw [canon, hx]
  rw [hcan, hx]
  go_enter Try.func10, Try.ntmps10
  go_wp2_with fail
  refine (parse_any s w).mono ?_
  rintro e w1 ⟨rfl, hb1⟩
  rw [hx]
  simp only
  have hl0 : zero16.length = 16 := rfl
  have c0 : (w1.alloc (.cells (av zero16) 22)).heap[w1.heap.size]? = some (.cells (av zero16) 22) := heap_alloc_new _ _
  have c1 := row16 (ys := xs) c0
  have hb2 : Below w.heap.size w ((w1.alloc (.cells (av zero16) 22)).setRow w1.heap.size (av xs)) := below_setRow (hb1.alloc hb1.size _) hb1.size _
  clear hcan
  rcases hn with rfl | rfl
  · go_wp2_with (first | (refine wpList_load16 rfl _ rfl w1.heap.size xs 22 rfl c1 hl ?_) | (refine wpList_store16 rfl _ _ rfl w1.heap.size zero16 xs 22 rfl rfl c0 hl0 hl ?_))
    refine (text_any xs _ hl h9).mono ?_
    rintro e w2 ⟨rfl, hb3⟩
    go_wp2
    exact bodyPost_ret (v := .tuple #[.string (strOfNums (txt xs)), .int .i64 0]) (by simp [results, Try.results10, go_sem]) rfl ⟨by first | rfl | simp, hb2.trans (hb3.mono hb2.size)⟩
  · go_wp2_with (first | (refine wpList_store16 rfl _ _ rfl w1.heap.size zero16 xs 22 rfl rfl c0 hl0 hl ?_))
    exact bodyPost_ret (v := .tuple #[.string ⟨#[]⟩, .int .i64 130]) (by simp [results, Try.results10, go_sem]) rfl ⟨by first | rfl | simp, hb2⟩
theorem refcanon_any (s : ByteArray) (w : World) (hs : s.size ≤ maxLen) :
    Calls Try.prog 14 #[.string s] w fun e w' => e = .returned (.tuple #[.string (canon s), .int .i64 (parsed s).2]) ∧ Below w.heap.size w w' := by
  obtain ⟨xs, n, hx, hl, h9, hn⟩ := parsed_facts s
  have hcan : canon s = if n = 0 then strOfNums (txt xs) else ⟨#[]⟩ := by rw [canon, hx]
  rw [hcan, hx]
  go_enter Try.func14, Try.ntmps14
  go_wp2_with fail
  refine (refparse_any s w hs).mono ?_
  rintro e w1 ⟨rfl, hb1⟩
  rw [hx]
  simp only
  have hl0 : zero16.length = 16 := rfl
  have c0 : (w1.alloc (.cells (av zero16) 22)).heap[w1.heap.size]? = some (.cells (av zero16) 22) := heap_alloc_new _ _
  have c1 := row16 (ys := xs) c0
  have hb2 : Below w.heap.size w ((w1.alloc (.cells (av zero16) 22)).setRow w1.heap.size (av xs)) := below_setRow (hb1.alloc hb1.size _) hb1.size _
  clear hcan
  rcases hn with rfl | rfl
  · go_wp2_with (first | (refine wpList_load16 rfl _ rfl w1.heap.size xs 22 rfl c1 hl ?_) | (refine wpList_store16 rfl _ _ rfl w1.heap.size zero16 xs 22 rfl rfl c0 hl0 hl ?_))
    refine (reftext_any xs _ hl h9).mono ?_
    rintro e w2 ⟨rfl, hb3⟩
    go_wp2
    exact bodyPost_ret (v := .tuple #[.string (strOfNums (txt xs)), .int .i64 0]) (by simp [results, Try.results14, go_sem]) rfl ⟨by first | rfl | simp, hb2.trans (hb3.mono hb2.size)⟩
  · go_wp2_with (first | (refine wpList_store16 rfl _ _ rfl w1.heap.size zero16 xs 22 rfl rfl c0 hl0 hl ?_))
    exact bodyPost_ret (v := .tuple #[.string ⟨#[]⟩, .int .i64 130]) (by simp [results, Try.results14, go_sem]) rfl ⟨by first | rfl | simp, hb2⟩
end Go.Proofs.Ytbigpcpifbjkfaa
