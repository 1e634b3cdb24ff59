/- The program's text that is read: mark. Conditions: those of each theorem. -/
import Derived.Test.YtdaadoiedaplaaaDoorNum
import Derived.Lib.IndexLaws
namespace Go.Proofs.YtdaadoiedaplaaaDoor
open Go.RowKit Go.Lib
/-- one of some bytes -/
def markP (M : List UInt8) : List UInt8 → Option (UInt8 × List UInt8)
  | [] => none
  | c :: r => if c ∈ M then some (c, r) else none
theorem index_neg (l : List UInt8) (c : UInt8) : Lib.indexByte l c < 0 ↔ c ∉ l := by
  have hge := Lib.indexByte_ge l c
  constructor
  · intro h hm
    have h1 : Lib.indexByte l c = -1 := by omega
    obtain ⟨k, hk, he⟩ := List.mem_iff_getElem.1 hm
    exact Lib.indexByte_none h1 k (by rw [List.getElem?_eq_getElem hk, he])
  · intro h
    rcases Int.lt_or_le (Lib.indexByte l c) 0 with h1 | h1
    · exact h1
    · exfalso
      obtain ⟨o, ho⟩ : ∃ o : Nat, Lib.indexByte l c = o := ⟨(Lib.indexByte l c).toNat, by omega⟩
      have := (Lib.indexByte_some ho).1
      exact h (List.mem_of_getElem? this)
def MarkPost (g : Nat) (M : List UInt8) (o : Option (List UInt8)) (w : World) (e : Ending) (w' : World) : Prop :=
  ∃ r : Nat, e = .returned (.int .u8 r) ∧ (∀ v l, o.bind (markP M) = some (v, l) → r = v.toNat) ∧ St w' g ((o.bind (markP M)).map (·.2)) ∧ w.grownBy w' (some g)
theorem st_bad {w : World} {g : Nat} {s : ByteArray} {b0 : Bool} (c0 : w.cell? ⟨g, 0, none⟩ = some (.string s)) (c1 : w.cell? ⟨g, 1, none⟩ = some (.bool b0)) (f0 : w.frozen? ⟨g, 0, none⟩ = false) (f1 : w.frozen? ⟨g, 1, none⟩ = false) (hs : s.size ≤ maxLen) :
    St (w.setCell ⟨g, 1, none⟩ (.bool true)) g none := by
  refine ⟨s, true, ?_, World.cell?_setCell_same _ _ _ c1, ?_, ?_, hs, rfl⟩
  · rw [World.cell?_setCell_other _ _ _ _ (by simp)]; exact c0
  · rw [World.frozen?_setCell]; exact f0
  · rw [World.frozen?_setCell]; exact f1
theorem st_str {w : World} {g : Nat} {s0 : ByteArray} {b : Bool} (s : ByteArray) (o : Option (List UInt8)) (h : match o with | some l => b = false ∧ s.data.toList = l | none => b = true)
    (c0 : w.cell? ⟨g, 0, none⟩ = some (.string s0)) (c1 : w.cell? ⟨g, 1, none⟩ = some (.bool b)) (f0 : w.frozen? ⟨g, 0, none⟩ = false) (f1 : w.frozen? ⟨g, 1, none⟩ = false) (hs : s.size ≤ maxLen) :
    St (w.setCell ⟨g, 0, none⟩ (.string s)) g o := by
  refine ⟨s, b, World.cell?_setCell_same _ _ _ c0, ?_, ?_, ?_, hs, h⟩
  · rw [World.cell?_setCell_other _ _ _ _ (by simp)]; exact c1
  · rw [World.frozen?_setCell]; exact f0
  · rw [World.frozen?_setCell]; exact f1
set_option maxHeartbeats 2000000 in
theorem mark_any (g : Nat) (M : ByteArray) (o : Option (List UInt8)) (w : World) (hS : St w g o) :
    Calls Tryd.prog 25 #[.pointer (some ⟨g, 0, none⟩), .string M] w (MarkPost g M.data.toList o w) := by
  obtain ⟨s, b, c0, c1, f0, f1, hsz, ho⟩ := hS
  by_cases hl : s.toList = []
  · have hi : s.toList.isEmpty = true := by rw [hl]; rfl
    have hres : (o.bind (markP M.data.toList)) = none := by
      cases o with
      | none => rfl
      | some l =>
        obtain ⟨rfl, rfl⟩ := ho
        rw [Lib.toList_data] at hl
        show markP M.data.toList s.data.toList = none
        rw [hl]
        rfl
    have HR := Lib.hid hres
    have HS := Lib.hid hsz
    clear hres ho hsz
    go_enter Tryd.func25, Tryd.ntmps25
    go_wp2
    go_ret
    refine ⟨0, rfl, (fun v l h => by rw [HR.out] at h; cases h), ?_, gb_set _ _ _ _⟩
    rw [HR.out]
    exact st_bad c0 c1 f0 f1 HS.out
  · have hi : s.toList.isEmpty = false := by
      cases h : s.toList with
      | nil => exact absurd h hl
      | cons a r => rfl
    have h1 : 0 < s.size := by
      rcases Nat.eq_zero_or_pos s.size with h | h
      · exfalso
        apply hl
        rw [Lib.toList_data]
        exact List.eq_nil_of_length_eq_zero (by rw [ba_len]; exact h)
      · exact h
    have hcons : s.data.toList = s[0] :: s.data.toList.drop 1 := by
      have hlen : 0 < s.data.toList.length := by rw [ba_len]; exact h1
      rw [← List.drop_zero (l := s.data.toList), List.drop_eq_getElem_cons hlen]
      simp only [Nat.zero_add]
      rfl
    have hc := fun W => Tryd.strings_IndexByte M (s[0].toNat : Nat) W
    rw [show ((s[0].toNat : Nat) : Int).toNat.toUInt8 = s[0] by simp] at hc
    have hneg := index_neg M.data.toList s[0]
    have hge := Lib.indexByte_ge M.data.toList s[0]
    have hno : s[0] ∉ M.data.toList → o.bind (markP M.data.toList) = none := by
      intro h
      cases o with
      | none => rfl
      | some l =>
        obtain ⟨rfl, rfl⟩ := ho
        show markP M.data.toList s.data.toList = none
        rw [hcons, markP, if_neg h]
    have hyes : s[0] ∈ M.data.toList → (match (o.bind (markP M.data.toList)).map (·.2) with | some l => b = false ∧ s.data.toList.drop 1 = l | none => b = true) ∧ (∀ v l, o.bind (markP M.data.toList) = some (v, l) → s[0].toNat = v.toNat) := by
      intro h
      cases o with
      | none => exact ⟨ho, fun v l h => by cases h⟩
      | some l =>
        obtain ⟨rfl, rfl⟩ := ho
        have e : (some s.data.toList).bind (markP M.data.toList) = some (s[0], s.data.toList.drop 1) := by
          show markP M.data.toList s.data.toList = _
          rw [hcons, markP, if_pos h]
          rfl
        rw [e]
        exact ⟨⟨rfl, rfl⟩, fun v l h => by cases h; rfl⟩
    have HNO := Lib.hid hno
    have HYES := Lib.hid hyes
    have HS := Lib.hid hsz
    have hd2 : (s.extract 1 s.size).data.toList = s.data.toList.drop 1 := ext_drop s 1
    have hz2 : (s.extract 1 s.size).size ≤ maxLen := by rw [ByteArray.size_extract]; omega
    have HD := Lib.hid hd2
    have HZ := Lib.hid hz2
    clear hno hyes hcons ho hsz hd2 hz2
    by_cases hm : s[0] ∈ M.data.toList
    · have hr : ¬ Lib.indexByte M.data.toList s[0] < 0 := fun h => hneg.1 h hm
      obtain ⟨y1, y2⟩ := HYES.out hm
      have HY1 := Lib.hid y1
      have HY2 := Lib.hid y2
      clear y1 y2 HYES HNO hneg hm
      generalize Lib.indexByte M.data.toList s[0] = r at *
      have hsz1 : (1 : Int) ≤ s.size := by omega
      go_enter Tryd.func25, Tryd.ntmps25
      go_wp2_with fail
      refine (hc _).mono ?_
      rintro e w1 ⟨rfl, rfl⟩
      clear hc
      go_wp2
      go_ret
      refine ⟨s[0].toNat, rfl, HY2.out, ?_, gb_set _ _ _ _⟩
      refine st_str (b := b) _ _ ?_ c0 c1 f0 f1 HZ.out
      rw [HD.out]
      exact HY1.out
    · have hr : Lib.indexByte M.data.toList s[0] < 0 := hneg.2 hm
      have hres := HNO.out hm
      have HR := Lib.hid hres
      clear hres HYES HNO hneg hm
      generalize Lib.indexByte M.data.toList s[0] = r at *
      go_enter Tryd.func25, Tryd.ntmps25
      go_wp2_with fail
      refine (hc _).mono ?_
      rintro e w1 ⟨rfl, rfl⟩
      clear hc
      go_wp2
      go_ret
      refine ⟨0, rfl, (fun v l h => by rw [HR.out] at h; cases h), ?_, gb_set _ _ _ _⟩
      rw [HR.out]
      exact st_bad c0 c1 f0 f1 HS.out
end Go.Proofs.YtdaadoiedaplaaaDoor
