/- The order of two UUIDs is the order of their texts: plain laws. Conditions: sixteen bytes each. -/
import Derived.Test.YtbigpcpifbjkfaaUuidOpen
namespace Go.Proofs.Ytbigpcpifbjkfaa
open Go.RowKit Go.ChangeShapes Go.WideShapes Go.ChangeAt
theorem cmp_self : ∀ xs : List Int, cmpI xs xs = 0
  | [] => rfl
  | x :: xs => by rw [cmpI, if_neg (by omega), if_neg (by omega), cmp_self xs]
theorem cmp_eq : ∀ (xs ys : List Int), xs.length = ys.length → (cmpI xs ys == 0) = (xs == ys)
  | [], [], _ => rfl
  | x :: xs, y :: ys, h => by
    have ih := cmp_eq xs ys (by simpa using h)
    rw [cmpI]
    by_cases h1 : x < y
    · rw [if_pos h1]
      have : (x == y) = false := by rw [beq_eq_false_iff_ne]; omega
      simp [List.cons_beq_cons, this]
    · rw [if_neg h1]
      by_cases h2 : y < x
      · rw [if_pos h2]
        have : (x == y) = false := by rw [beq_eq_false_iff_ne]; omega
        simp [List.cons_beq_cons, this]
      · rw [if_neg h2, ih]
        have : (x == y) = true := by rw [beq_iff_eq]; omega
        simp [List.cons_beq_cons, this]
  | [], _ :: _, h => by simp at h
  | _ :: _, [], h => by simp at h
theorem cmp_neg : ∀ (xs ys : List Int), xs.length = ys.length → cmpI ys xs = - cmpI xs ys
  | [], [], _ => rfl
  | x :: xs, y :: ys, h => by
    have ih := cmp_neg xs ys (by simpa using h)
    rw [cmpI, cmpI]
    by_cases h1 : x < y
    · rw [if_neg (by omega), if_pos h1, if_pos h1]
      rfl
    · by_cases h2 : y < x
      · rw [if_pos h2, if_neg h1, if_pos h2]
      · rw [if_neg h2, if_neg h1, if_neg h1, if_neg h2, ih]
  | [], _ :: _, h => by simp at h
  | _ :: _, [], h => by simp at h
theorem cmp_rng : ∀ (xs ys : List Int), -1 ≤ cmpI xs ys ∧ cmpI xs ys ≤ 1
  | [], [] => by simp [cmpI]
  | [], _ :: _ => by simp [cmpI]
  | _ :: _, [] => by simp [cmpI]
  | x :: xs, y :: ys => by
    have ih := cmp_rng xs ys
    rw [cmpI]
    split
    · omega
    · split <;> omega
theorem less_cmp : ∀ (x y : List UInt8), Op.bytesLess x y = decide (Lib.compareBytes x y < 0)
  | [], [] => rfl
  | _ :: _, [] => rfl
  | [], _ :: _ => rfl
  | a :: x, b :: y => by
    have ih := less_cmp x y
    rw [Op.bytesLess, Lib.compareBytes, ih]
    by_cases h1 : a < b
    · simp [h1]
    · by_cases h2 : b < a
      · have : ¬ a = b := by intro h; subst h; exact h1 h2
        simp [h1, h2, this]
      · have : a = b := UInt8.le_antisymm (UInt8.not_lt.1 h2) (UInt8.not_lt.1 h1)
        simp [h1, h2, this]
theorem cmp_prefix (p P Q : List Int) : cmpI (p ++ P) (p ++ Q) = cmpI P Q := by
  induction p with
  | nil => rfl
  | cons x p ih => rw [List.cons_append, List.cons_append, cmpI, if_neg (by omega), if_neg (by omega), ih]
theorem hexd_lt {x y : Int} (h : 0 ≤ x ∧ x < y ∧ y < 16) : hexd x < hexd y := by unfold hexd; split <;> split <;> omega
theorem txt_drop (b : List Int) (k : Nat) (h : k < 16) : (txt b).drop (pos k) = [hexd (b.getD k 0 / 16), hexd (b.getD k 0 % 16)] ++ ((if brk k then [45] else []) ++ (txt b).drop (pos (k + 1))) := by
  have h1 := txt_step b k h
  obtain ⟨_, _, _, _, p5, p6⟩ := pos_facts k h
  have h2 : (txt b).take (pos (k + 1)) ++ (txt b).drop (pos (k + 1)) = (txt b).take (pos k) ++ (txt b).drop (pos k) := by rw [List.take_append_drop, List.take_append_drop]
  rw [h1, List.append_assoc, List.append_assoc] at h2
  exact (List.append_cancel_left h2).symm
theorem cmp_txt (a b : List Int) (ha : a.length = 16) (hb : b.length = 16) (ha9 : ∀ x ∈ a, 0 ≤ x ∧ x < 256) (hb9 : ∀ x ∈ b, 0 ≤ x ∧ x < 256) :
    ∀ n k, n + k = 16 → cmpI ((txt a).drop (pos k)) ((txt b).drop (pos k)) = cmpI (a.drop k) (b.drop k) := by
  intro n
  induction n with
  | zero =>
    intro k hk
    have : k = 16 := by omega
    subst this
    rw [show pos 16 = 36 from rfl, List.drop_of_length_le (by rw [txt_len]; omega), List.drop_of_length_le (by rw [txt_len]; omega), List.drop_of_length_le (by omega), List.drop_of_length_le (by omega)]
  | succ n ih =>
    intro k hk
    have hk16 : k < 16 := by omega
    have ih := ih (k + 1) (by omega)
    have hx := ha9 (a.getD k 0) (by rw [List.getD, List.getElem?_eq_getElem (show k < a.length by omega)]; exact List.getElem_mem _)
    have hy := hb9 (b.getD k 0) (by rw [List.getD, List.getElem?_eq_getElem (show k < b.length by omega)]; exact List.getElem_mem _)
    rw [txt_drop a k hk16, txt_drop b k hk16, cmp_step a b k (by omega) (by omega)]
    obtain ⟨x, hxe⟩ : ∃ x, a.getD k 0 = x := ⟨_, rfl⟩
    obtain ⟨y, hye⟩ : ∃ y, b.getD k 0 = y := ⟨_, rfl⟩
    rw [hxe] at hx ⊢
    rw [hye] at hy ⊢
    simp only [List.cons_append, List.nil_append, cmpI]
    by_cases h1 : x < y
    · rw [if_pos h1]
      by_cases q : x / 16 < y / 16
      · rw [if_pos (hexd_lt ⟨by omega, q, by omega⟩)]
      · have e : x / 16 = y / 16 := by omega
        rw [e, if_neg (by omega), if_neg (by omega), if_pos (hexd_lt ⟨by omega, by omega, by omega⟩)]
    · rw [if_neg h1]
      by_cases h2 : y < x
      · rw [if_pos h2]
        by_cases q : y / 16 < x / 16
        · have := hexd_lt (x := y / 16) (y := x / 16) ⟨by omega, q, by omega⟩
          rw [if_neg (by omega), if_pos this]
        · have e : x / 16 = y / 16 := by omega
          have := hexd_lt (x := y % 16) (y := x % 16) ⟨by omega, by omega, by omega⟩
          rw [e, if_neg (by omega), if_neg (by omega), if_neg (by omega), if_pos this]
      · rw [if_neg h2]
        have e : x = y := by omega
        subst e
        rw [if_neg (by omega), if_neg (by omega), if_neg (by omega), if_neg (by omega), cmp_prefix, ih]
theorem less_txt (a b : List Int) (ha : a.length = 16) (hb : b.length = 16) (ha9 : ∀ x ∈ a, 0 ≤ x ∧ x < 256) (hb9 : ∀ x ∈ b, 0 ≤ x ∧ x < 256) :
    Op.bytesLess (strOfNums (txt a)).toList (strOfNums (txt b)).toList = decide (cmpI a b < 0) := by
  have hr : ∀ c : List Int, c.length = 16 → (∀ x ∈ c, 0 ≤ x ∧ x < 256) → ∀ x ∈ txt c, 0 ≤ x ∧ x < 256 := by
    intro c hc hc9 x hx
    simp only [txt, List.mem_map] at hx
    obtain ⟨j, _, rfl⟩ := hx
    exact chr_rng c hc hc9 j
  rw [less_cmp, Lib.strOfNums_toList, Lib.strOfNums_toList, cmp_bytes (txt a) (txt b) (hr a ha ha9) (hr b hb hb9)]
  have := cmp_txt a b ha hb ha9 hb9 16 0 rfl
  rw [show pos 0 = 0 from rfl] at this
  simp only [List.drop_zero] at this
  rw [this]
theorem cmp_more : ∀ (a : List Int) (k : Nat) (v : Int), k < a.length → a.getD k 0 < v → cmpI a (a.set k v) = -1
  | [], k, v, h, _ => by simp at h
  | x :: a, 0, v, _, h => by
    have : x < v := by simpa [List.getD] using h
    simp [cmpI, this]
  | x :: a, k + 1, v, h, hv => by
    have ih := cmp_more a k v (by simpa using h) (by simpa [List.getD] using hv)
    rw [List.set_cons_succ, cmpI, if_neg (by omega), if_neg (by omega), ih]
theorem open_u8 {H : Type} {enc : TypeId × Value → H} {W : World} {r : Reach} {b0 : Nat} {v : Value} {d : DataW H} {p : List MemPlace} (hv : Value.okWide Try.prog W r b0 5 v)
    (h : DataW.Trod enc Try.prog W 0 (fun _ => true) true 5 v d p) : ∃ i : Int, v = .int .u8 i ∧ 0 ≤ i ∧ i < 256 := by
  obtain ⟨n, rfl⟩ : ∃ n, v = .int .u8 n := by
    simp only [Value.okWide, Try.underlying5, Cell.okWide] at hv
    cases v <;> simp_all [Cell.ok]
  obtain ⟨fuel, hf⟩ := h
  obtain ⟨k, hk, _, hw⟩ := DataW.trod_int Try.underlying5 hf
  have hk : n = k := by simpa [Value.cells] using hk
  subst hk
  refine ⟨n, rfl, ?_⟩
  simp [Lit.wf] at hw
  have q0 : IntKind.u8.min = 0 := rfl
  have q1 : IntKind.u8.max = 255 := rfl
  omega
end Go.Proofs.Ytbigpcpifbjkfaa
