/- Plain (program's, reference's), cell.Twin. Conditions: lengths within the model's; Go's two tables of utf8; the reference's: texts of at most 2,000,000 bytes. -/
import Derived.Test.YtmaefhnlipcmoaaDoorRefG
namespace Go.Proofs.YtmaefhnlipcmoaaDoor
open Go.RowKit
def isEV (c : Cel) : Bool := (c.kind : Int) == 4 || (c.kind : Int) == 5
def idxC : List Cel → Nat → Int
  | [], _ => -1
  | c :: r, j => if isEV c = true then (j : Int) else idxC r (j + 1)
theorem idxC_any : ∀ (l : List Cel) (j : Nat), decide (0 ≤ idxC l j) = l.any isEV
  | [], j => by simp [idxC]
  | c :: r, j => by
    rw [idxC, List.any_cons]
    cases h : isEV c with
    | true => simp
    | false => simp [idxC_any r (j + 1)]
theorem idxC_drop {l : List Cel} {k : Nat} (h : k < l.length) (j : Nat) : idxC (l.drop k) j = if isEV l[k] = true then (j : Int) else idxC (l.drop (k + 1)) (j + 1) := by
  rw [List.drop_eq_getElem_cons h, idxC]
theorem plain1_any (c : Cel) (w : World) : Calls Tryd.prog 50 #[.agg #[.int .u8 c.kind, .string c.name, .string c.text, .int .i64 c.num, .int .i64 c.many]] w fun e w' => e = .returned (.bool (isEV c)) ∧ Below w.heap.size w w' := by
  unfold isEV
  by_cases h4 : (c.kind : Int) = 4
  · have e4 : ((c.kind : Int) == 4) = true := beq_iff_eq.2 h4
    rw [e4, Bool.true_or]
    go_enter Tryd.func50, Tryd.ntmps50
    go_wp2
    go_ret
    exact ⟨rfl, (Below.refl _ _).alloc (Nat.le_refl _) _⟩
  · have e4 : ((c.kind : Int) == 4) = false := beq_eq_false_iff_ne.2 h4
    rw [e4, Bool.false_or]
    obtain ⟨v, hv⟩ : ∃ v, ((c.kind : Int) == 5) = v := ⟨_, rfl⟩
    rw [hv]
    go_enter Tryd.func50, Tryd.ntmps50
    go_wp2
    all_goals go_ret
    all_goals exact ⟨rfl, (Below.refl _ _).alloc (Nat.le_refl _) _⟩
set_option maxHeartbeats 2000000 in
theorem indexC_any {xs : List Cel} (A : Option Addr) (cap : Nat) (w : World) {B : Nat} (hx : Rd w B A (cv xs)) (hB : B ≤ w.heap.size) (hn : xs.length ≤ 1000000000) :
    Calls Tryd.prog 59 #[.slice A xs.length cap, .func (.func 50) #[] #[]] w fun e w' => e = .returned (.int .i64 (idxC xs 0)) ∧ Below w.heap.size w w' := by
  obtain ⟨V, hV⟩ : ∃ V, idxC xs 0 = V := ⟨_, rfl⟩
  rw [hV]
  have HV := Lib.hid hV
  clear hV
  go_enter Tryd.func59, Tryd.ntmps59
  go_wp2
  go_loopw [8] (fun i wr => ∃ k : Nat, k ≤ xs.length ∧ i = .int .i64 k ∧ idxC (xs.drop k) k = V ∧ Below w.heap.size w wr) (fun i _ => xs.length - (intOf i).toNat)
  case atStart => exact ⟨0, Nat.zero_le _, rfl, by rw [List.drop_zero, HV.out], Below.refl _ _⟩
  case round =>
    obtain ⟨k, hk, rfl, hd, hb⟩ := hrel
    by_cases hlt : k < xs.length
    · rw [idxC_drop hlt] at hd
      obtain ⟨b, off, rfl, hbl, c0, c1, c2, c3, c4⟩ := hx.cel1 (List.getElem?_eq_getElem hlt)
      have kx : ∀ o v, w.cell? ⟨b, o, none⟩ = some v → wr.cell? ⟨b, o, none⟩ = some v := fun o v g => (hb.cell (p := ⟨b, o, none⟩) (by show b < w.heap.size; omega)).trans g
      replace c0 := kx _ _ c0
      replace c1 := kx _ _ c1
      replace c2 := kx _ _ c2
      replace c3 := kx _ _ c3
      replace c4 := kx _ _ c4
      obtain ⟨x, hxk⟩ : ∃ x, xs[k] = x := ⟨_, rfl⟩
      rw [hxk] at c0 c1 c2 c3 c4 hd
      have hlI : (k : Int) < xs.length := by omega
      have hltd : decide ((k : Int) < xs.length) = true := by simp; omega
      have hcall := plain1_any x wr
      have HX := Lib.hid hx
      clear hx hxk kx
      cases hp : isEV x with
      | true =>
        rw [hp, if_pos rfl] at hd
        subst hd
        rw [hp] at hcall
        clear hp HV
        go_wp2_with (go_at_call 50; refine hcall.mono ?_; rintro e w3 ⟨rfl, hb3⟩)
        go_ret
        exact ⟨rfl, hb.trans (hb3.mono hb.size)⟩
      | false =>
        rw [hp, if_neg (by simp)] at hd
        rw [hp] at hcall
        have HD := Lib.hid hd
        clear hp hd
        go_wp2_with (go_at_call 50; refine hcall.mono ?_; rintro e w3 ⟨rfl, hb3⟩)
        go_roundw
        case rel => exact ⟨k + 1, hlt, by go_num, HD.out, hb.trans (hb3.mono hb.size)⟩
        case measure => simp [intOf]; omega
    · obtain rfl : k = xs.length := by omega
      rw [List.drop_of_length_le (Nat.le_refl _)] at hd
      have hv2 : V = -1 := by rw [← hd]; rfl
      subst hv2
      have hltd : decide ((xs.length : Int) < xs.length) = false := by simp
      clear hd HV
      go_wp2
      go_ret
      exact ⟨rfl, hb⟩
theorem containsC_any {xs : List Cel} (A : Option Addr) (cap : Nat) (w : World) {B : Nat} (hx : Rd w B A (cv xs)) (hB : B ≤ w.heap.size) (hn : xs.length ≤ 1000000000) :
    Calls Tryd.prog 49 #[.slice A xs.length cap, .func (.func 50) #[] #[]] w fun e w' => e = .returned (.bool (xs.any isEV)) ∧ Below w.heap.size w w' := by
  have hc := indexC_any A cap w hx hB hn
  have hq := idxC_any xs 0
  rw [← hq]
  obtain ⟨v, hv⟩ : ∃ v, idxC xs 0 = v := ⟨_, rfl⟩
  rw [hv] at hc ⊢
  clear hq hv
  go_enter Tryd.func49, Tryd.ntmps49
  go_wp2_with fail
  refine hc.mono ?_
  rintro e w1 ⟨rfl, hb⟩
  go_wp2
  go_ret
  exact ⟨rfl, hb⟩
def plainC (xs : List Cel) : Bool := mayC xs && !(xs.any isEV)
theorem plain_any {xs : List Cel} (A : Option Addr) (cap : Nat) (w : World) {B : Nat} (h : In xs A w B) (hn : xs.length ≤ 1000000000) :
    Calls Tryd.prog 28 #[.slice A xs.length cap] w fun e w' => e = .returned (.bool (plainC xs)) ∧ Below w.heap.size w w' := by
  have hc := check_any2 A cap w h
  have hk := fun w1 (hb : Below w.heap.size w w1) => containsC_any A cap w1 (h.rd.thru hb h.le) (Nat.le_trans h.le hb.size) hn
  unfold plainC
  unfold checkC at hc
  cases hm : mayC xs with
  | false =>
    rw [hm] at hc
    rw [Bool.false_and]
    clear hk h hm
    go_enter Tryd.func28, Tryd.ntmps28
    go_wp2_with fail
    refine hc.mono ?_
    rintro e w1 ⟨rfl, hb⟩
    go_wp2
    go_ret
    exact ⟨rfl, hb⟩
  | true =>
    rw [hm] at hc
    rw [Bool.true_and]
    obtain ⟨v, hv⟩ : ∃ v, xs.any isEV = v := ⟨_, rfl⟩
    rw [hv] at hk ⊢
    clear h hm hv
    go_enter Tryd.func28, Tryd.ntmps28
    go_wp2_with fail
    refine hc.mono ?_
    rintro e w1 ⟨rfl, hb⟩
    go_wp2_with fail
    refine (hk w1 hb).mono ?_
    rintro e w2 ⟨rfl, hb2⟩
    go_wp2
    go_ret
    exact ⟨rfl, hb.trans (hb2.mono hb.size)⟩
theorem any_drop {l : List Cel} {k : Nat} (h : k < l.length) : (l.drop k).any isEV = (isEV l[k] || (l.drop (k + 1)).any isEV) := by
  rw [List.drop_eq_getElem_cons h, List.any_cons]
set_option maxHeartbeats 2000000 in
theorem plain_ref {xs : List Cel} (A : Option Addr) (cap : Nat) (w : World) {B : Nat} (h : InR xs A w B) :
    Calls Tryd.prog 29 #[.slice A xs.length cap] w fun e w' => e = .returned (.bool (plainC xs)) ∧ Below w.heap.size w w' := by
  have hm := may_ref A cap w h.rd h.le h.len h.wf
  have hn := h.len
  obtain ⟨M, hM⟩ : ∃ M, mayC xs = M := ⟨_, rfl⟩
  obtain ⟨V, hV⟩ : ∃ V, xs.any isEV = V := ⟨_, rfl⟩
  unfold plainC
  rw [hM] at hm ⊢
  rw [hV]
  obtain ⟨R, hR⟩ : ∃ R, (M && !V) = R := ⟨_, rfl⟩
  rw [hR]
  have HR := Lib.hid hR
  clear hR
  have hx := h.rd
  have hB := h.le
  have HV := Lib.hid hV
  clear hV hM h
  go_enter Tryd.func29, Tryd.ntmps29
  go_wp2
  go_loopw [3] (fun i wr => ∃ k : Nat, k ≤ xs.length ∧ i = .int .i64 k ∧ (xs.drop k).any isEV = V ∧ wr = w) (fun i _ => xs.length - (intOf i).toNat)
  case atStart => exact ⟨0, Nat.zero_le _, rfl, by rw [List.drop_zero, HV.out], rfl⟩
  case round =>
    obtain ⟨k, hk, rfl, hd, rfl⟩ := hrel
    by_cases hlt : k < xs.length
    · rw [any_drop hlt] at hd
      obtain ⟨b, off, rfl, hbl, c0, _⟩ := hx.cel1 (List.getElem?_eq_getElem hlt)
      obtain ⟨x, hxk⟩ : ∃ x, xs[k] = x := ⟨_, rfl⟩
      rw [hxk] at c0 hd
      unfold isEV at hd
      have hlI : (k : Int) < xs.length := by omega
      have hltd : decide ((k : Int) < xs.length) = true := by simp; omega
      have HX := Lib.hid hx
      clear hx hxk
      by_cases h4 : (x.kind : Int) = 4
      · have e4 : ((x.kind : Int) == 4) = true := beq_iff_eq.2 h4
        rw [e4, Bool.true_or, Bool.true_or] at hd
        subst hd
        obtain rfl : R = false := by rw [← HR.out]; simp
        clear hm HV HR
        go_wp2
        go_ret
        exact ⟨rfl, Below.refl _ _⟩
      · have e4 : ((x.kind : Int) == 4) = false := beq_eq_false_iff_ne.2 h4
        rw [e4, Bool.false_or] at hd
        by_cases h5 : (x.kind : Int) = 5
        · have e5 : ((x.kind : Int) == 5) = true := beq_iff_eq.2 h5
          rw [e5, Bool.true_or] at hd
          subst hd
          obtain rfl : R = false := by rw [← HR.out]; simp
          clear hm HV HR
          go_wp2
          go_ret
          exact ⟨rfl, Below.refl _ _⟩
        · have e5 : ((x.kind : Int) == 5) = false := beq_eq_false_iff_ne.2 h5
          rw [e5, Bool.false_or] at hd
          have HD := Lib.hid hd
          clear hd hm
          go_wp2
          go_roundw
          case rel => exact ⟨k + 1, hlt, by go_num, HD.out, trivial⟩
          case measure => simp [intOf]; omega
    · obtain rfl : k = xs.length := by omega
      rw [List.drop_of_length_le (Nat.le_refl _)] at hd
      have hv2 : V = false := by rw [← hd]; rfl
      subst hv2
      obtain rfl : R = M := by rw [← HR.out]; simp
      have hltd : decide ((xs.length : Int) < xs.length) = false := by simp
      clear hd HV HR
      go_wp2_with fail
      refine hm.mono ?_
      rintro e w1 ⟨rfl, hb⟩
      go_wp2
      go_ret
      exact ⟨rfl, hb⟩
/-- the program's Twin, of what a call owns -/
theorem twin_any {xs : List Cel} {v : Value} {base : Nat} (w : World) (h : w.ownsRow base 45 5 v xs.length (cv xs)) (hn : xs.length ≤ 1000000000) :
    Calls Tryd.prog 31 #[v] w fun e w' => ∃ v, e = .returned v ∧ w'.ownsRow w.heap.size 45 5 v xs.length (cv xs) ∧ Below w.heap.size w w' := by
  rcases Nat.eq_zero_or_pos xs.length with h0 | h0
  · obtain ⟨A, c, rfl, _, _⟩ := own_slice h
    rcases A with _ | ad
    · have hx : xs = [] := List.eq_nil_of_length_eq_zero h0
      subst hx
      have hc := clone_nil c w
      have ownN : ∀ b, w.ownsRow b 45 5 (.slice none 0 0) ([] : List Cel).length (cv []) := fun b => World.ownsRow_nil _ _ _ _
      clear h h0
      go_enter Tryd.func31, Tryd.ntmps31
      go_wp2_with fail
      refine hc.mono ?_
      rintro e w1 ⟨rfl, rfl⟩
      go_wp2
      go_ret
      exact ⟨_, rfl, ownN _, Below.refl _ _⟩
    · rcases h.2 with ⟨h3, _⟩ | ⟨g, cap, cur, h3, _⟩
      · simp at h3
      · simp only [Value.slice.injEq, Option.some.injEq] at h3
        obtain ⟨rfl, _, rfl⟩ := h3
        have hx : xs = [] := List.eq_nil_of_length_eq_zero h0
        have hc := clone_any (xs := xs) g 0 c w (B := 0) (by rw [hx]; exact Rd.nil) hn
        clear h h0 hx
        go_enter Tryd.func31, Tryd.ntmps31
        go_wp2_with fail
        refine hc.mono ?_
        rintro e w1 ⟨v, rfl, hown, hb⟩
        have HO := Lib.hid hown
        clear hown
        go_wp2
        go_ret
        exact ⟨_, rfl, HO.out, hb⟩
  · obtain ⟨g, c, cur, rfl, q1, q2, q3, q4, q5, q6⟩ := own_some h h0
    have hrd : Rd w (g + 1) (some ⟨g, 0, none⟩) (cv xs) := by
      right
      refine ⟨g, 0, rfl, by omega, fun j hj => ?_⟩
      rw [Nat.zero_add, cell_of_row w g j _ _ (0, 0) q4, ← Array.getElem?_toList]
      have : (cv xs)[j]? = (cur.toList.take (xs.length * 5))[j]? := by rw [q6]
      rw [List.getElem?_take, if_pos (by rw [cv_len] at hj; exact hj), List.getElem?_eq_getElem hj] at this
      exact this.symm
    have hc := clone_any (xs := xs) g 0 c w hrd hn
    clear h q4 q5 q6 hrd
    go_enter Tryd.func31, Tryd.ntmps31
    go_wp2_with fail
    refine hc.mono ?_
    rintro e w1 ⟨v, rfl, hown, hb⟩
    have HO := Lib.hid hown
    clear hown
    go_wp2
    go_ret
    exact ⟨_, rfl, HO.out, hb⟩
end Go.Proofs.YtmaefhnlipcmoaaDoor
