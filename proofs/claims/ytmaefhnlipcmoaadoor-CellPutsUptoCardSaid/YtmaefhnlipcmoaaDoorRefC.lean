/- provostref03.One. Conditions: a cell's numbers within their kinds; texts of at most 2,000,000 bytes. -/
import Derived.Test.YtmaefhnlipcmoaaDoorRefTx
import Derived.Test.YtmaefhnlipcmoaaDoorRefName
namespace Go.Proofs.YtmaefhnlipcmoaaDoor
open Go.RowKit
/-- a cell whose numbers are within their kinds, whose texts are of at most M bytes -/
structure CelW (M : Nat) (c : Cel) : Prop where
  kind : c.kind ≤ 255
  name : c.name.size ≤ M
  text : c.text.size ≤ M
  num0 : -9223372036854775808 ≤ c.num
  num1 : c.num ≤ 9223372036854775807
  many0 : -9223372036854775808 ≤ c.many
  many1 : c.many ≤ 9223372036854775807
theorem e0_nil (s : ByteArray) : (s = e0) ↔ s.toList = [] := by
  constructor
  · rintro rfl; rw [Lib.toList_data]; rfl
  · intro h; exact ba_ext (by rw [h, Lib.toList_data]; rfl)
theorem e0_isE (s : ByteArray) : decide (s = e0) = s.toList.isEmpty := by
  rw [Bool.eq_iff_iff]
  simp [e0_nil]
theorem beqD (a b : Int) : (a == b) = decide (a = b) := by
  rw [Bool.eq_iff_iff]
  simp
/-- five cells of a block that has just been laid, in a later world -/
theorem new5 (w w1 : World) (a b c d e : Value) (t : TypeId) (hb : Below (w.alloc (.cells #[a, b, c, d, e] t)).heap.size (w.alloc (.cells #[a, b, c, d, e] t)) w1) :
    w1.cell? ⟨w.heap.size, 0, none⟩ = some a ∧ w1.cell? ⟨w.heap.size, 1, none⟩ = some b ∧ w1.cell? ⟨w.heap.size, 2, none⟩ = some c ∧ w1.cell? ⟨w.heap.size, 3, none⟩ = some d ∧ w1.cell? ⟨w.heap.size, 4, none⟩ = some e := by
  have h : ∀ o, w1.cell? ⟨w.heap.size, o, none⟩ = (w.alloc (.cells #[a, b, c, d, e] t)).cell? ⟨w.heap.size, o, none⟩ := fun o => hb.cell (by simp)
  rw [h, h, h, h, h]
  refine ⟨?_, ?_, ?_, ?_, ?_⟩ <;> (simp only [World.cell?, heap_alloc_new]; rfl)
abbrev OneSays (k : Nat) : Prop := ∀ (nm tx : ByteArray) (num many : Int) (w : World), tx.size ≤ 2000000 → Calls Tryd.prog 56 #[.agg #[.int .u8 k, .string nm, .string tx, .int .i64 num, .int .i64 many]] w fun e w' => e = .returned (.bool (oneC ⟨k, nm, tx, num, many⟩)) ∧ Below w.heap.size w w'
theorem one_0 : OneSays 0 := by
  intro nm tx num many w _
  go_enter Tryd.func56, Tryd.ntmps56
  go_wp2
  all_goals (go_ret; exact ⟨ret_bool (by simp [oneC, e0_nil, beqD, *]), (Below.refl _ _).alloc (Nat.le_refl _) _⟩)
theorem one_1 : OneSays 1 := by
  intro nm tx num many w _
  go_enter Tryd.func56, Tryd.ntmps56
  go_wp2
  all_goals (go_ret; exact ⟨ret_bool (by simp [oneC, e0_nil, beqD, *]), (Below.refl _ _).alloc (Nat.le_refl _) _⟩)
theorem one_2 : OneSays 2 := by
  intro nm tx num many w _
  go_enter Tryd.func56, Tryd.ntmps56
  go_wp2
  all_goals (go_ret; exact ⟨ret_bool (by simp [oneC, e0_nil, beqD, *]), (Below.refl _ _).alloc (Nat.le_refl _) _⟩)
theorem one_6 : OneSays 6 := by
  intro nm tx num many w _
  go_enter Tryd.func56, Tryd.ntmps56
  go_wp2
  all_goals (go_ret; exact ⟨ret_bool (by simp [oneC, e0_nil, *]), (Below.refl _ _).alloc (Nat.le_refl _) _⟩)
theorem one_7 : OneSays 7 := by
  intro nm tx num many w _
  go_enter Tryd.func56, Tryd.ntmps56
  go_wp2
  all_goals (go_ret; exact ⟨ret_bool (by simp [oneC, e0_nil, *]), (Below.refl _ _).alloc (Nat.le_refl _) _⟩)
theorem one_3 : OneSays 3 := by
  intro nm tx num many w hx
  have hm : tx.size ≤ maxLen := by unfold maxLen; omega
  obtain ⟨V, hV⟩ : ∃ V, textOk tx = V := ⟨_, rfl⟩
  have HV := Lib.hid hV
  go_enter Tryd.func56, Tryd.ntmps56
  go_wp2_with fail
  refine (text_ref tx _ hx).mono ?_
  rw [hV]
  clear hV
  rintro e w1 ⟨rfl, hb⟩
  
  have hb2 : Below w.heap.size w w1 := ((Below.refl _ _).alloc (Nat.le_refl _) _).trans (hb.mono (by simp))
  obtain ⟨_, _, _, c3, c4⟩ := new5 w w1 _ _ _ _ _ _ hb
  cases V with
  | false =>
    go_wp2
    all_goals (go_ret; exact ⟨ret_bool (by simp [oneC, HV.out]), hb2⟩)
  | true =>
    go_wp2
    all_goals (go_ret; exact ⟨ret_bool (by simp [oneC, HV.out, beqD, *]), hb2⟩)
theorem one_4 : OneSays 4 := by
  intro nm tx num many w hx
  have hm : tx.size ≤ maxLen := by unfold maxLen; omega
  obtain ⟨V, hV⟩ : ∃ V, nameOk tx = V := ⟨_, rfl⟩
  have HV := Lib.hid hV
  go_enter Tryd.func56, Tryd.ntmps56
  go_wp2_with fail
  refine (name_ref tx _ hm).mono ?_
  rw [hV]
  clear hV
  rintro e w1 ⟨rfl, hb⟩
  subst hb
  
  
  cases V with
  | false =>
    go_wp2
    all_goals (go_ret; exact ⟨ret_bool (by simp [oneC, HV.out]), (Below.refl _ _).alloc (Nat.le_refl _) _⟩)
  | true =>
    go_wp2
    all_goals (go_ret; exact ⟨ret_bool (by simp [oneC, HV.out, beqD, *]), (Below.refl _ _).alloc (Nat.le_refl _) _⟩)
theorem one_5 : OneSays 5 := by
  intro nm tx num many w hx
  have hm : tx.size ≤ maxLen := by unfold maxLen; omega
  obtain ⟨V, hV⟩ : ∃ V, nameOk tx = V := ⟨_, rfl⟩
  have HV := Lib.hid hV
  go_enter Tryd.func56, Tryd.ntmps56
  go_wp2_with fail
  refine (name_ref tx _ hm).mono ?_
  rw [hV]
  clear hV
  rintro e w1 ⟨rfl, hb⟩
  subst hb
  
  
  cases V with
  | false =>
    go_wp2
    all_goals (go_ret; exact ⟨ret_bool (by simp [oneC, HV.out]), (Below.refl _ _).alloc (Nat.le_refl _) _⟩)
  | true =>
    go_wp2
    all_goals (go_ret; exact ⟨ret_bool (by simp [oneC, HV.out, beqD, *]), (Below.refl _ _).alloc (Nat.le_refl _) _⟩)
theorem one_more (k : Nat) (h : 8 ≤ k) (h2 : k ≤ 255) : OneSays k := by
  intro nm tx num many w hx
  have hV : oneC ⟨k, nm, tx, num, many⟩ = false := by
    unfold oneC
    simp only
    rw [if_neg (by omega), if_neg (by omega), if_neg (by omega), if_neg (by omega), if_neg (by omega), if_neg (by omega)]
  rw [hV]
  clear hV
  go_enter Tryd.func56, Tryd.ntmps56
  go_wp2
  go_ret
  exact ⟨rfl, (Below.refl _ _).alloc (Nat.le_refl _) _⟩
theorem one_ref (c : Cel) (w : World) (hc : CelW 2000000 c) : Calls Tryd.prog 56 #[.agg #[.int .u8 c.kind, .string c.name, .string c.text, .int .i64 c.num, .int .i64 c.many]] w fun e w' => e = .returned (.bool (oneC c)) ∧ Below w.heap.size w w' := by
  obtain ⟨k, nm, tx, num, many⟩ := c
  have hx := hc.text
  have hk := hc.kind
  simp only at hx hk ⊢
  have h8 : k = 0 ∨ k = 1 ∨ k = 2 ∨ k = 3 ∨ k = 4 ∨ k = 5 ∨ k = 6 ∨ k = 7 ∨ 8 ≤ k := by omega
  rcases h8 with rfl | rfl | rfl | rfl | rfl | rfl | rfl | rfl | h
  · exact one_0 nm tx num many w hx
  · exact one_1 nm tx num many w hx
  · exact one_2 nm tx num many w hx
  · exact one_3 nm tx num many w hx
  · exact one_4 nm tx num many w hx
  · exact one_5 nm tx num many w hx
  · exact one_6 nm tx num many w hx
  · exact one_7 nm tx num many w hx
  · exact one_more k h hk nm tx num many w hx
end Go.Proofs.YtmaefhnlipcmoaaDoor
