/- The order of bytes; cmp.Compare, order.Check, the reference's comparison of lists of texts. Conditions: lengths within the model's. Records in memory; whether two records clash. Conditions: lengths within the model's; Go's two tables of utf8. Which of some records meets a test; whether a record clashes with one of a table's. Conditions: lengths within the model's; Go's two tables of utf8. -/
import Derived.Test.YtcgioepbooafcaaGreatDoorMBase
import Derived.Test.YtcgioepbooafcaaGreatDoorChecked
import Derived.Lib.Hide
import Derived.WalkKit
import Derived.WalkLawsBesides
import Derived.BigQuiet
import Derived.Deep.QuietTactic
import Derived.Deep.Draws
import Derived.Sort.Walk0
import Derived.Test.YtcgioepbooafcaaGreatDoorMVal
namespace Go.Proofs.YtcgioepbooafcaaGreatDoor
section
open Go.RowKit
/-- the order of bytes, as a Bool. -/
def slt (a b : ByteArray) : Bool := Op.bytesLess a.toList b.toList
def scmp (a b : ByteArray) : Int := if slt a b = true then -1 else if slt b a = true then 1 else 0

theorem slt_iff (a b : ByteArray) : slt a b = true ↔ a.data.toList < b.data.toList := by
  unfold slt
  rw [bytesLess_eq, Lib.toList_data, Lib.toList_data, decide_eq_true_iff]

theorem less_irrefl (a : ByteArray) : slt a a = false := by
  rw [Bool.eq_false_iff]
  intro h
  exact List.lt_irrefl _ ((slt_iff a a).1 h)

theorem slt_total (a b : ByteArray) (h1 : slt a b = false) (h2 : slt b a = false) : a = b := by
  have e : a.data.toList = b.data.toList := by
    apply List.le_antisymm
    · intro h; rw [(slt_iff b a).2 h] at h2; cases h2
    · intro h; rw [(slt_iff a b).2 h] at h1; cases h1
  obtain ⟨⟨l⟩⟩ := a
  obtain ⟨⟨m⟩⟩ := b
  simp at e
  rw [e]
theorem slt_asymm (a b : ByteArray) (h1 : slt a b = true) : slt b a = false := by
  rw [Bool.eq_false_iff]
  intro h
  exact List.lt_irrefl _ (List.lt_trans ((slt_iff a b).1 h1) ((slt_iff b a).1 h))
theorem slt_trans (a b c : ByteArray) (h1 : slt a b = true) (h2 : slt b c = true) : slt a c = true :=
  (slt_iff a c).2 (List.lt_trans ((slt_iff a b).1 h1) ((slt_iff b c).1 h2))
/-- how the walk spells the four tests on strings -/
theorem gtr_slt (a b : ByteArray) : (!(Op.bytesLess a.toList b.toList || a.toList == b.toList)) = slt b a := by
  change (!(slt a b || a.toList == b.toList)) = slt b a
  rw [Lib.toList_data, Lib.toList_data]
  cases h1 : slt a b
  · cases h2 : slt b a
    · have := slt_total a b h1 h2
      subst this
      simp
    · have hne : a ≠ b := by
        rintro rfl
        rw [h1] at h2
        cases h2
      have : (a.data.toList == b.data.toList) = false := by
        rw [beq_eq_false_iff_ne]
        intro e
        apply hne
        obtain ⟨⟨l⟩⟩ := a
        obtain ⟨⟨m⟩⟩ := b
        simp at e
        rw [e]
      rw [this]; rfl
  · rw [slt_asymm a b h1]; rfl

set_option maxHeartbeats 1000000 in
theorem oisnan_any (x : ByteArray) (w : World) : Calls Tryz.prog 69 #[.string x] w fun e w' => e = .returned (.bool false) ∧ w = w' := by
  go_enter Tryz.func69, Tryz.ntmps69
  go_wp2
  go_ret
  exact ⟨ret_bool (by simp), rfl⟩

set_option maxHeartbeats 1000000 in
theorem ocmp_any (a b : ByteArray) (w : World) :
    Calls Tryz.prog 51 #[.string a, .string b] w fun e w' => e = .returned (.int .i64 (scmp a b)) ∧ w = w' := by
  have hg := gtr_slt a b
  have HG := Lib.hid hg
  clear hg
  go_enter Tryz.func51, Tryz.ntmps51
  go_wp2_with (go_at_call 69; refine (oisnan_any _ _).mono ?_; rintro e w' ⟨rfl, rfl⟩)
  · have h1 : Op.bytesLess a.toList b.toList = true := by assumption
    go_ret
    exact ⟨ret_int (by unfold scmp; rw [if_pos (show slt a b = true from h1)]), rfl⟩
  · have h1 : Op.bytesLess a.toList b.toList = false := by assumption
    have h2 : (!a.toList == b.toList) = true := by assumption
    go_ret
    refine ⟨ret_int ?_, rfl⟩
    have hg := HG.out
    rw [h1, Bool.false_or, h2] at hg
    unfold scmp
    rw [if_neg (show ¬ slt a b = true by rw [show slt a b = false from h1]; simp), if_pos hg.symm]
  · have h1 : Op.bytesLess a.toList b.toList = false := by assumption
    have h2 : (!a.toList == b.toList) = false := by assumption
    go_ret
    refine ⟨ret_int ?_, rfl⟩
    have hg := HG.out
    rw [h1, Bool.false_or, h2] at hg
    unfold scmp
    rw [if_neg (show ¬ slt a b = true by rw [show slt a b = false from h1]; simp), if_neg (by rw [← hg]; simp)]

/-- a list rises -/
def rises (xs : List ByteArray) : Bool := (List.range (xs.length - 1)).all fun i => match xs[i]?, xs[i + 1]? with | some a, some b => slt a b | _, _ => true
def okB (xs : List ByteArray) : Bool := decide (xs.length ≤ 4096) && rises xs
theorem rises_iff (xs : List ByteArray) : rises xs = true ↔ ∀ (i : Nat) (h : i + 1 < xs.length), slt xs[i] xs[i + 1] = true := by
  unfold rises
  rw [List.all_eq_true]
  constructor
  · intro h i hi
    have := h i (List.mem_range.2 (by omega))
    rw [List.getElem?_eq_getElem (show i < xs.length by omega), List.getElem?_eq_getElem hi] at this
    exact this
  · intro h i hi
    rw [List.mem_range] at hi
    rw [List.getElem?_eq_getElem (show i < xs.length by omega), List.getElem?_eq_getElem (show i + 1 < xs.length by omega)]
    exact h i (by omega)
theorem okB_many {xs : List ByteArray} (h : 4096 < xs.length) : okB xs = false := by
  unfold okB
  rw [decide_eq_false (by omega)]; rfl
theorem okB_not {xs : List ByteArray} {k : Nat} (h : k + 1 < xs.length) (h1 : slt xs[k] xs[k + 1] = false) : okB xs = false := by
  unfold okB
  have : rises xs = false := by
    rw [Bool.eq_false_iff]
    intro e
    rw [(rises_iff xs).1 e k h] at h1
    cases h1
  rw [this, Bool.and_false]
theorem okB_yes {xs : List ByteArray} (h : xs.length ≤ 4096) (h1 : ∀ (i : Nat) (hi : i + 1 < xs.length), slt xs[i] xs[i + 1] = true) : okB xs = true := by
  unfold okB
  rw [decide_eq_true h, (rises_iff xs).2 h1]; rfl
def code (ok : Bool) : Int := if ok then 0 else 8

set_option maxHeartbeats 1000000 in
theorem ocheck_any (A : Option Addr) (c : Nat) (xs : List ByteArray) (w : World) {E : Nat} (hx : Rd w E A (sv xs)) (hn : xs.length ≤ maxLen) :
    Calls Tryz.prog 66 #[.slice A xs.length c] w fun e w' => e = .returned (.int .i64 (code (okB xs))) ∧ ∃ n, w' = w.drewN n := by
  unfold maxLen at hn
  by_cases hm : 4096 < xs.length
  · have HS : Hid (code (okB xs) = 8) := by unfold Hid; rw [okB_many hm]; rfl
    go_enter Tryz.func66, Tryz.ntmps66
    go_wp2
    go_ret
    exact ⟨ret_int HS.out.symm, ex_same⟩
  · go_enter Tryz.func66, Tryz.ntmps66
    go_wp2
    go_loopw [9] (fun i wr => ∃ k q : Nat, k ≤ xs.length ∧ i = .int .i64 k ∧ (∀ (i : Nat) (hi : i + 1 < xs.length), i + 1 < k → slt xs[i] xs[i + 1] = true) ∧ wr = w.drewN q) (fun i _ => xs.length - (intOf i).toNat)
    case atStart => exact ⟨0, 0, Nat.zero_le _, rfl, fun _ _ h => by omega, rfl⟩
    case round =>
      obtain ⟨k, q, hk, rfl, he, rfl⟩ := hrel
      have HE := Lib.hid he
      clear he
      by_cases hlt : k < xs.length
      · obtain ⟨b, off, rfl, hb, hc⟩ := hx.str hlt
        by_cases h0 : k = 0
        · subst h0
          have hd : decide ((0 : Int) < 0) = false := by simp
          clear hc hx
          go_wp2
          go_quiet (fail)
          go_wp2
          exact ⟨⟨1, _, hlt, by simp, fun _ _ h => by omega, rfl⟩, by simp [intOf]; omega⟩
        · obtain ⟨m, rfl⟩ : ∃ m, k = m + 1 := ⟨k - 1, by omega⟩
          have c1 := hc m (by omega)
          have c2 := hc (m + 1) hlt
          clear hc hx
          go_wp2
          go_quiet (fail)
          go_wp2
          · have h1 : (!Op.bytesLess xs[m].toList xs[m + 1].toList) = true := by assumption
            go_ret
            refine ⟨ret_int ?_, ex_drew⟩
            rw [okB_not hlt (show Op.bytesLess xs[m].toList xs[m + 1].toList = false by simpa using h1)]; rfl
          · have h1 : (!Op.bytesLess xs[m].toList xs[m + 1].toList) = false := by assumption
            refine ⟨⟨m + 2, _, hlt, by go_num, fun i hi h => ?_, rfl⟩, by simp [intOf]; omega⟩
            by_cases e : i = m
            · subst e
              show Op.bytesLess _ _ = true
              simpa using h1
            · exact HE.out i hi (by omega)
      · have HS : Hid (code (okB xs) = 0) := by
          unfold Hid
          rw [okB_yes (by omega) (fun i hi => HE.out i hi (by omega))]; rfl
        go_wp2
        go_ret
        exact ⟨ret_int HS.out.symm, ex_drew0⟩

/-- how many of a list are ahead of a string -/
def before (xs : List ByteArray) (s : ByteArray) : Nat := (xs.takeWhile (fun x => slt x s)).length

theorem rises_lt {xs : List ByteArray} (hr : rises xs = true) : ∀ (j i : Nat) (hj : j < xs.length) (hij : i < j), slt (xs[i]'(by omega)) xs[j] = true := by
  intro j
  induction j with
  | zero => intro i hj hij; omega
  | succ j ih =>
    intro i hj hij
    have h1 := (rises_iff xs).1 hr j hj
    by_cases e : i = j
    · subst e; exact h1
    · exact slt_trans _ _ _ (ih i (by omega) (by omega)) h1
theorem before_le (xs : List ByteArray) (s : ByteArray) : before xs s ≤ xs.length := List.IsPrefix.length_le (List.takeWhile_prefix _)
theorem before_eq {xs : List ByteArray} {s : ByteArray} {k : Nat} (hk : k ≤ xs.length) (h1 : ∀ (j : Nat) (h : j < k), slt (xs[j]'(by omega)) s = true) (h2 : ∀ h : k < xs.length, slt xs[k] s = false) : before xs s = k := by
  unfold before
  have e : xs = xs.take k ++ xs.drop k := (List.take_append_drop _ _).symm
  have h3 : ∀ x ∈ xs.take k, (fun x => slt x s) x = true := by
    intro x hx
    obtain ⟨j, hj, rfl⟩ := List.mem_take_iff_getElem.1 hx
    exact h1 j (by omega)
  rw [e, List.takeWhile_append_of_pos h3]
  have h4 : (xs.drop k).takeWhile (fun x => slt x s) = [] := by
    by_cases hk2 : k < xs.length
    · rw [List.drop_eq_getElem_cons hk2, List.takeWhile_cons, h2 hk2]; rfl
    · rw [List.drop_of_length_le (by omega)]; rfl
  rw [h4, List.append_nil, List.length_take]
  omega

def SInv (xs : List ByteArray) (s : ByteArray) (lo hi : Nat) : Prop :=
  lo ≤ hi ∧ hi ≤ xs.length ∧ (∀ (j : Nat) (h : j < xs.length), j < lo → slt xs[j] s = true) ∧ (∀ (j : Nat) (h : j < xs.length), hi ≤ j → slt xs[j] s = false)
theorem SInv.up {xs : List ByteArray} {s : ByteArray} {lo hi m : Nat} (h : SInv xs s lo hi) (hr : rises xs = true) (h1 : lo ≤ m) (h2 : m < hi) (hm : m < xs.length) (ht : slt xs[m] s = true) : SInv xs s (m + 1) hi :=
  ⟨by omega, h.2.1, fun j hj hlt => by
    by_cases e : j = m
    · subst e; exact ht
    · exact slt_trans _ _ _ (rises_lt hr m j hm (by omega)) ht, h.2.2.2⟩
theorem SInv.down {xs : List ByteArray} {s : ByteArray} {lo hi m : Nat} (h : SInv xs s lo hi) (hr : rises xs = true) (h1 : lo ≤ m) (h2 : m < hi) (hm : m < xs.length) (ht : slt xs[m] s = false) : SInv xs s lo m :=
  ⟨h1, by have := h.2.1; omega, h.2.2.1, fun j hj hge => by
    by_cases e : j = m
    · subst e; exact ht
    · rw [Bool.eq_false_iff]
      intro e2
      have := slt_trans _ _ _ (rises_lt hr j m hj (by omega)) e2
      rw [this] at ht; cases ht⟩
theorem SInv.done {xs : List ByteArray} {s : ByteArray} {lo hi : Nat} (h : SInv xs s lo hi) (he : ¬ lo < hi) : before xs s = lo := by
  obtain ⟨h1, h2, h3, h4⟩ := h
  exact before_eq (by omega) (fun j hj => h3 j (by omega) hj) (fun hl => h4 lo hl (by omega))

def hasB (xs : List ByteArray) (s : ByteArray) : Bool := match xs[before xs s]? with | some x => decide (x = s) | none => false
theorem hasB_end {xs : List ByteArray} {s : ByteArray} (h : ¬ before xs s < xs.length) : hasB xs s = false := by
  unfold hasB
  rw [List.getElem?_eq_none (by omega)]
theorem hasB_at {xs : List ByteArray} {s : ByteArray} (h : before xs s < xs.length) : hasB xs s = decide (xs[before xs s] = s) := by
  unfold hasB
  rw [List.getElem?_eq_getElem h]
theorem okB_len {xs : List ByteArray} (h : okB xs = true) : xs.length ≤ 4096 := by
  unfold okB at h
  simp at h
  exact h.1
theorem okB_rises {xs : List ByteArray} (h : okB xs = true) : rises xs = true := by
  unfold okB at h
  simp at h
  exact h.2

theorem otake_eq {xs ys : List ByteArray} {k : Nat} (h1 : k < xs.length) (h2 : k < ys.length) (h : xs.take k = ys.take k) (he : xs[k] = ys[k]) : xs.take (k + 1) = ys.take (k + 1) := by
  rw [List.take_succ_eq_append_getElem h1, List.take_succ_eq_append_getElem h2, h, he]

set_option maxHeartbeats 1000000 in
theorem osame_any (A B : Option Addr) (c d : Nat) (xs ys : List ByteArray) (w : World) {E : Nat} (hx : Rd w E A (sv xs)) {F : Nat} (hy : Rd w F B (sv ys)) (hn : xs.length ≤ maxLen) :
    Calls Tryz.prog 38 #[.slice A xs.length c, .slice B ys.length d] w fun e w' => e = .returned (.bool (decide (xs = ys))) ∧ ∃ n, w' = w.drewN n := by
  unfold maxLen at hn
  by_cases hl : xs.length = ys.length
  · have h1 : ((xs.length : Int) != ys.length) = false := by simp [hl]
    have HL := Lib.hid hl
    clear hl
    go_enter Tryz.func38, Tryz.ntmps38
    go_wp2
    clear h1
    go_loopw [5] (fun i wr => ∃ k q : Nat, k ≤ xs.length ∧ i = .int .i64 k ∧ xs.take k = ys.take k ∧ wr = w.drewN q) (fun i _ => xs.length - (intOf i).toNat)
    case atStart => exact ⟨0, 0, Nat.zero_le _, rfl, rfl, rfl⟩
    case round =>
      obtain ⟨k, q, hk, rfl, he, rfl⟩ := hrel
      have HE := Lib.hid he
      clear he
      by_cases hlt : k < xs.length
      · have hlt2 : k < ys.length := by have := HL.out; omega
        obtain ⟨b, off, rfl, hb, hc⟩ := hx.str hlt
        obtain ⟨b2, off2, rfl, hb2, hc2⟩ := hy.str hlt2
        have c1 := hc k hlt
        have c2 := hc2 k hlt2
        clear hc hc2 hx hy
        go_wp2
        go_quiet (fail)
        go_wp2
        · have h1 : (!xs[k].toList == ys[k].toList) = true := by assumption
          go_ret
          refine ⟨ret_bool ?_, ex_drew⟩
          rw [eq_comm, decide_eq_false_iff_not]
          intro e
          rw [ba_beq] at h1
          simp [e] at h1
        · have h1 : (!xs[k].toList == ys[k].toList) = false := by assumption
          rw [ba_beq] at h1
          exact ⟨⟨k + 1, _, hlt, by go_num, otake_eq hlt hlt2 HE.out (by simpa using h1), rfl⟩, by simp [intOf]; omega⟩
      · have hk' : k = xs.length := by omega
        have HS : Hid (decide (xs = ys) = true) := by
          have he := HE.out
          rw [List.take_of_length_le (by omega), List.take_of_length_le (by rw [← HL.out]; omega)] at he
          exact decide_eq_true he
        clear hk'
        go_wp2
        go_ret
        exact ⟨ret_bool HS.out.symm, ex_drew0⟩
  · have h1 : ((xs.length : Int) != ys.length) = true := by rw [bne_iff_ne]; omega
    have HS : Hid (decide (xs = ys) = false) := decide_eq_false (fun e => hl (by rw [e]))
    clear hl
    go_enter Tryz.func38, Tryz.ntmps38
    go_wp2
    go_ret
    exact ⟨ret_bool HS.out.symm, ex_same⟩

def Pw (xs : List ByteArray) : Prop := xs.Pairwise (fun a b => slt a b = true)
theorem rises_pw (xs : List ByteArray) : rises xs = true ↔ Pw xs := by
  unfold Pw
  rw [List.pairwise_iff_getElem]
  constructor
  · intro h i j hi hj hij
    exact rises_lt h j i hj hij
  · intro h
    rw [rises_iff]
    intro i hi
    exact h i (i + 1) (by omega) hi (by omega)
end
section
open Go.RowKit
structure RecW (r : RecC) : Prop where
  id : r.id.size ≤ maxLen
  len : r.data.length ≤ 1000000
  wf : ∀ c ∈ r.data, CelW maxLen c
structure RecIn (w : World) (B : Nat) (xs : List Cel) (A : Option Addr) (c : Nat) : Prop where
  rd : Rd w B A (cv xs)
  cap : xs.length ≤ c
  cm : c ≤ maxLen
theorem RecIn.thru {w w' : World} {B B' : Nat} {xs : List Cel} {A : Option Addr} {c : Nat} (h : RecIn w B xs A c) (hb : Below B' w w') (hB : B ≤ B') : RecIn w' B xs A c := ⟨h.rd.thru hb hB, h.cap, h.cm⟩
theorem RecIn.mono {w : World} {B B' : Nat} {xs : List Cel} {A : Option Addr} {c : Nat} (h : RecIn w B xs A c) (hB : B ≤ B') : RecIn w B' xs A c := ⟨h.rd.mono hB, h.cap, h.cm⟩
theorem RecIn.inn {w : World} {B : Nat} {r : RecC} {A : Option Addr} {c : Nat} (h : RecIn w B r.data A c) (hB : B ≤ w.heap.size) (hw : RecW r) (hT : Tabs w) : In r.data A w B :=
  ⟨h.rd, hB, by have := hw.len; unfold maxLen; omega, hT, hw.wf⟩
/-- records, in blocks below B -/
def Recs (w : World) (B : Nat) (A : Option Addr) (rs : List RecC) : Prop :=
  rs = [] ∨ ∃ b off, A = some ⟨b, off, none⟩ ∧ b < B ∧ ∀ (k : Nat) (h : k < rs.length), w.cell? ⟨b, off + k * 2, none⟩ = some (.string rs[k].id) ∧ ∃ A' c, w.cell? ⟨b, off + k * 2 + 1, none⟩ = some (.slice A' rs[k].data.length c) ∧ RecIn w B rs[k].data A' c
theorem Recs.at' {w : World} {B : Nat} {A : Option Addr} {rs : List RecC} (h : Recs w B A rs) {k : Nat} (hk : k < rs.length) :
    ∃ b off A' c, A = some ⟨b, off, none⟩ ∧ b < B ∧ w.cell? ⟨b, off + k * 2, none⟩ = some (.string rs[k].id) ∧ w.cell? ⟨b, off + k * 2 + 1, none⟩ = some (.slice A' rs[k].data.length c) ∧ RecIn w B rs[k].data A' c := by
  rcases h with rfl | ⟨b, off, e, hb, h⟩
  · simp at hk
  · obtain ⟨h0, A', c, h1, h2⟩ := h k hk
    exact ⟨b, off, A', c, e, hb, h0, h1, h2⟩
theorem Recs.thru {w w' : World} {B B' : Nat} {A : Option Addr} {rs : List RecC} (h : Recs w B A rs) (hb : Below B' w w') (hB : B ≤ B') : Recs w' B A rs := by
  rcases h with rfl | ⟨b, off, e, hl, h⟩
  · exact .inl rfl
  · refine .inr ⟨b, off, e, hl, fun k hk => ?_⟩
    obtain ⟨h0, A', c, h1, h2⟩ := h k hk
    exact ⟨(hb.cell (p := ⟨b, off + k * 2, none⟩) (by show b < B'; omega)).trans h0, A', c, (hb.cell (p := ⟨b, off + k * 2 + 1, none⟩) (by show b < B'; omega)).trans h1, h2.thru hb hB⟩
theorem Recs.mono {w : World} {B B' : Nat} {A : Option Addr} {rs : List RecC} (h : Recs w B A rs) (hB : B ≤ B') : Recs w B' A rs := by
  rcases h with rfl | ⟨b, off, e, hl, h⟩
  · exact .inl rfl
  · refine .inr ⟨b, off, e, by omega, fun k hk => ?_⟩
    obtain ⟨h0, A', c, h1, h2⟩ := h k hk
    exact ⟨h0, A', c, h1, h2.mono hB⟩
theorem sameC_symm (a b : List Cel) : sameC a b = sameC b a := by
  rw [Bool.eq_iff_iff, sameC_iff, sameC_iff]
  exact eq_comm
def ordC : Tb.Ord (List Cel) (List Cel) where
  lt := slt
  irr := less_irrefl
  tr := slt_trans
  tot := slt_total
  one := oneR
  val := valO
  same := sameC
  sym := sameC_symm
theorem valO_ne {xs : List Cel} {nm : ByteArray} {y : List Cel} (h : valO xs nm = some y) : y ≠ [] := by
  unfold valO at h
  cases hq : memR xs 0 nm with
  | none => rw [hq] at h; cases h
  | some q =>
    rw [hq] at h
    simp only at h
    split at h
    · cases h
    · obtain ⟨hm, _, _, _, hl⟩ := memR_lt hq
      simp only [Option.some.injEq] at h
      rw [← h]
      exact subL_ne hm hl
theorem by1_eq (a b : RecC) (u : ByteArray) : Tb.by1 ordC a b u = (!(valL a.data u).isEmpty && sameC (valL a.data u) (valL b.data u)) := by
  unfold Tb.by1
  simp only [ordC]
  unfold valL
  cases ha : valO a.data u with
  | none => rfl
  | some x =>
    have hx := valO_ne ha
    obtain ⟨c, r, rfl⟩ : ∃ c r, x = c :: r := List.exists_cons_of_ne_nil hx
    cases hb : valO b.data u with
    | none => rfl
    | some y => rfl
theorem valL_len {xs : List Cel} {nm : ByteArray} {M : Nat} (h : xs.length ≤ M) : (valL xs nm).length ≤ M := by
  rcases valL_cases xs nm with ⟨_, e⟩ | ⟨q, _, _, e⟩ | ⟨q, _, _, e⟩
  · rw [e]; simp
  · rw [e]; simp
  · rw [e, subL, bare_len]
    simp
    omega
theorem any_dropU {α : Type} {p : α → Bool} {l : List α} {k : Nat} (h : k < l.length) : (l.drop k).any p = (p l[k] || (l.drop (k + 1)).any p) := by
  rw [List.drop_eq_getElem_cons h, List.any_cons]
theorem neq_nilC (w : World) (a : Option Addr) (n c n' c' : Nat) : (binOp .neq 26 (.slice a n c) (.slice none n' c')).run Tryz.prog w = .ok (.bool (!a.isNone)) w :=
  run_neq_slice_nil_any w _ _ a n c n' c' Tryz.underlying26
set_option maxRecDepth 100000 in
set_option maxHeartbeats 8000000 in
theorem clash1_any (x r : RecC) (A : Option Addr) (c : Nat) (us : List ByteArray) (Au : Option Addr) (cu bk pr pb pm : Nat) (Am : Option Addr) (cm : Nat) (w : World) {B B2 B3 : Nat} (h : RecIn w B x.data A c) (hB : B ≤ w.heap.size) (hw : RecW x) (hT : Tabs w)
    (hu : Rd w B2 Au (sv us)) (hB2 : B2 ≤ w.heap.size) (hul : us.length ≤ 1000) (hbk : bk < w.heap.size) (hc2 : w.cell? ⟨bk, 2, none⟩ = some (.slice Au us.length cu))
    (hpr : pr < w.heap.size) (hr : w.cell? ⟨pr, 0, none⟩ = some (.string r.id)) (hpb : pb < w.heap.size) (hb : w.cell? ⟨pb, 0, none⟩ = some (.pointer (some ⟨bk, 0, none⟩))) (hpm : pm < w.heap.size) (hm : w.cell? ⟨pm, 0, none⟩ = some (.slice Am us.length cm)) (hmine : SetsN w B3 Am (valsL r.data us)) (hB3 : B3 ≤ w.heap.size) :
    Calls Tryz.prog 59 #[.agg #[.string x.id, .slice A x.data.length c], .pointer (some ⟨pr, 0, none⟩), .pointer (some ⟨pb, 0, none⟩), .pointer (some ⟨pm, 0, none⟩)] w fun e w' => e = .returned (.bool (!decide (x.id = r.id) && Tb.clash ordC us x r)) ∧ Below w.heap.size w w' := by
  have hq := neq_nilC
  obtain ⟨W0, hW0⟩ : ∃ W0, W0 = w.alloc (.cells #[.string x.id, .slice A x.data.length c] 28) := ⟨_, rfl⟩
  have hb0 : Below w.heap.size w W0 := by rw [hW0]; exact (Below.refl _ _).alloc (Nat.le_refl _) _
  have kr : W0.cell? ⟨pr, 0, none⟩ = some (.string r.id) := (hb0.cell (p := ⟨pr, 0, none⟩) hpr).trans hr
  have kb : W0.cell? ⟨pb, 0, none⟩ = some (.pointer (some ⟨bk, 0, none⟩)) := (hb0.cell (p := ⟨pb, 0, none⟩) hpb).trans hb
  have km : ∀ W, Below W0.heap.size W0 W → W.cell? ⟨pm, 0, none⟩ = some (.slice Am us.length cm) := fun W q => ((hb0.trans (q.mono hb0.size)).cell (p := ⟨pm, 0, none⟩) hpm).trans hm
  have kmine : ∀ W, Below W0.heap.size W0 W → SetsN W B3 Am (valsL r.data us) := fun W q => hmine.thru (hb0.trans (q.mono hb0.size)) hB3
  have bw : ∀ W, Below W0.heap.size W0 W → Below w.heap.size w W := fun W q => hb0.trans (q.mono hb0.size)
  have cval := values_any x A c us Au cu bk W0 ((h.thru hb0 hB).inn (Nat.le_trans hB hb0.size) hw (hT.below hb0)) h.cap h.cm (hu.thru hb0 hB2) (Nat.le_trans hB2 hb0.size) hul (Nat.lt_of_lt_of_le hbk hb0.size) ((hb0.cell (p := ⟨bk, 2, none⟩) hbk).trans hc2)
  obtain ⟨m, hmm⟩ : ∃ m, us.length = m := ⟨_, rfl⟩
  have hsx := hw.len
  have H := Lib.hid (And.intro km (And.intro kmine (And.intro bw (And.intro hmm hB3))))
  rw [hmm] at hul
  unfold ValPost at cval
  rw [hmm] at cval
  clear h hB hw hT hu hB2 hbk hc2 hpr hr hpb hb hpm hm hmine km kmine bw hmm hb0 hB3
  cases hid : decide (x.id = r.id) with
  | true =>
    have e : x.id = r.id := of_decide_eq_true hid
    rw [Bool.not_true, Bool.false_and]
    have hbq : (x.id.toList == r.id.toList) = true := by rw [ba_beq]; exact hid
    have hF := H.out.2.2.1 W0 (Below.refl _ _)
    clear e hid cval H kb
    subst hW0
    go_enter Tryz.func59, Tryz.ntmps59
    go_wp2
    go_ret
    exact ⟨rfl, hF⟩
  | false =>
    rw [Bool.not_false, Bool.true_and]
    have hbq : (x.id.toList == r.id.toList) = false := by rw [ba_beq]; exact hid
    obtain ⟨V, hV⟩ : ∃ V, Tb.clash ordC us x r = V := ⟨_, rfl⟩
    rw [hV]
    have HV := Lib.hid hV
    clear hid hV
    subst hW0
    go_enter Tryz.func59, Tryz.ntmps59
    go_wp2_with fail
    refine cval.mono ?_
    rintro e w1 ⟨Av, cvv, rfl, hsv, hb1⟩
    clear cval
    have HS := Lib.hid hsv
    clear hsv
    go_wp2
    go_loopw [17] (fun vi wr => ∃ k : Nat, k ≤ m ∧ vi = .int .i64 k ∧ (us.drop k).any (Tb.by1 ordC x r) = V ∧ Below w1.heap.size w1 wr) (fun vi _ => m - (intOf vi).toNat)
    case atStart => exact ⟨0, Nat.zero_le _, rfl, by rw [List.drop_zero]; exact HV.out, Below.refl _ _⟩
    case round =>
      obtain ⟨k, hk, rfl, hd, hbr⟩ := hrel
      have b1 := hb1.trans (hbr.mono hb1.size)
      obtain ⟨km, kmine, bw, hmm, hB3⟩ := H.out
      have hbs := hbr.size
      by_cases hlt : k < m
      · have hku : k < us.length := by omega
        rw [any_dropU hku, by1_eq] at hd
        have hvl1 : (valsL x.data us).length = us.length := valsL_len _ _
        have hvl2 : (valsL r.data us).length = us.length := valsL_len _ _
        obtain ⟨bv, ov, Ax, cx, hAv, hbv, hcx, hrx, hnx⟩ := (HS.out.thru hbr (Nat.le_refl _)).at' (k := k) (by omega)
        obtain ⟨bm, om, Ay, cy, hAm, hbm, hcy, hry, hny⟩ := (kmine wr b1).at' (k := k) (by omega)
        subst hAv
        subst hAm
        rw [valsL_get _ hku] at hcx hrx hnx hcy hry
        have kmr := km wr b1
        rw [hmm] at kmr
        have hkI : (k : Int) < m := by omega
        have hfin := bw wr b1
        have hB3r : B3 ≤ wr.heap.size := Nat.le_trans hB3 hfin.size
        obtain ⟨y, hy⟩ : ∃ y, valL x.data us[k] = y := ⟨_, rfl⟩
        obtain ⟨z, hz⟩ : ∃ z, valL r.data us[k] = z := ⟨_, rfl⟩
        rw [hy] at hcx hrx hnx hd
        rw [hz] at hcy hry hd
        have hyl : y.length ≤ 1000000 := by rw [← hy]; exact valL_len hsx
        have bwA := bw
        clear km kmine bw hmm hB3 hvl1 hvl2 hny hy hz hku
        cases y with
        | nil =>
          have hA0 := hnx rfl
          subst hA0
          simp only [List.isEmpty_nil, Bool.not_true, Bool.false_and, Bool.false_or] at hd
          simp only [List.length_nil] at hcx
          have HD := Lib.hid hd
          clear hd hnx hrx hry hcy bwA hfin
          go_wp2
          go_roundw
          case rel => exact ⟨k + 1, hlt, by go_num, HD.out, hbr⟩
          case measure => simp [intOf]; omega
        | cons c0 y0 =>
          obtain ⟨bx, ox, hAx, _⟩ := hrx.at' (k := 0) (by simp [cv])
          subst hAx
          have hsame := same_any (xs := c0 :: y0) (ys := z) (some ⟨bx, ox, none⟩) Ay cx cy wr hrx hry (by omega) (by omega) (by omega)
          obtain ⟨S, hS⟩ : ∃ S, sameC (c0 :: y0) z = S := ⟨_, rfl⟩
          rw [hS] at hd hsame
          simp only [List.isEmpty_cons, Bool.not_false, Bool.true_and] at hd
          have HD := Lib.hid hd
          have HBW := Lib.hid bwA
          obtain ⟨n0, hn0⟩ : ∃ n0, (c0 :: y0).length = n0 := ⟨_, rfl⟩
          rw [hn0] at hcx hsame
          clear hd hnx hrx hry hS bwA hyl hn0
          go_wp2_with fail
          refine hsame.mono ?_
          rintro e u1 ⟨rfl, hu1⟩
          clear hsame
          have hb2 := hbr.trans (hu1.mono hbs)
          cases S with
          | true =>
            obtain rfl : V = true := by have := HD.out; simpa using this.symm
            go_wp2
            go_ret
            exact ⟨rfl, HBW.out u1 (hb1.trans (hb2.mono hb1.size))⟩
          | false =>
            go_wp2
            go_roundw
            case rel => exact ⟨k + 1, hlt, by go_num, by have := HD.out; simpa using this, hb2⟩
            case measure => simp [intOf]; omega
      · have hkm : m = k := by omega
        subst hkm
        have hltd : decide ((m : Int) < m) = false := by simp
        have hfin := bw wr b1
        obtain rfl : V = false := by rw [← hd, List.drop_of_length_le (by omega)]; rfl
        clear km kmine bw hmm hd hB3
        go_wp2
        go_ret
        exact ⟨rfl, hfin⟩
end
section
open Go.RowKit
def idxR (p : RecC → Bool) : List RecC → Nat → Int
  | [], _ => -1
  | c :: r, j => if p c = true then (j : Int) else idxR p r (j + 1)
theorem idxR_any (p : RecC → Bool) : ∀ (l : List RecC) (j : Nat), decide (0 ≤ idxR p l j) = l.any p
  | [], j => by simp [idxR]
  | c :: r, j => by
    rw [idxR, List.any_cons]
    cases h : p c with
    | true => simp
    | false => simp [idxR_any p r (j + 1)]
theorem idxR_drop {p : RecC → Bool} {l : List RecC} {k : Nat} (h : k < l.length) (j : Nat) : idxR p (l.drop k) j = if p l[k] = true then (j : Int) else idxR p (l.drop (k + 1)) (j + 1) := by
  rw [List.drop_eq_getElem_cons h, idxR]
/-- a test by a function value -/
def Tests (w : World) (B : Nat) (f : Nat) (caps : Array Value) (rs : List RecC) (p : RecC → Bool) : Prop :=
  ∀ k (h : k < rs.length) A' c' W, Below w.heap.size w W → RecIn W B rs[k].data A' c' → Calls Tryz.prog f (#[.agg #[.string rs[k].id, .slice A' rs[k].data.length c']] ++ caps) W fun e w' => e = .returned (.bool (p rs[k])) ∧ Below W.heap.size W w'
set_option maxRecDepth 100000 in
set_option maxHeartbeats 4000000 in
theorem indexR_any (rs : List RecC) (A : Option Addr) (c : Nat) (f : Nat) (caps : Array Value) (p : RecC → Bool) (w : World) {B : Nat} (hx : Recs w B A rs) (hB : B ≤ w.heap.size) (hn : rs.length ≤ 1000)
    (hC : ∀ args w, (callFunc f args).run Tryz.prog w = .ok (.enter f args) w) (hF : Tests w B f caps rs p) :
    Calls Tryz.prog 67 #[.slice A rs.length c, .func (.func f) #[] caps] w fun e w' => e = .returned (.int .i64 (idxR p rs 0)) ∧ Below w.heap.size w w' := by
  obtain ⟨V, hV⟩ : ∃ V, idxR p rs 0 = V := ⟨_, rfl⟩
  rw [hV]
  obtain ⟨n, hm⟩ : ∃ n, rs.length = n := ⟨_, rfl⟩
  have HV := Lib.hid hV
  have HC := Lib.hid hC
  have HF := Lib.hid hF
  have HX := Lib.hid hx
  have HM := Lib.hid hm
  rw [hm] at hn ⊢
  clear hV hC hF hx hm
  go_enter Tryz.func67, Tryz.ntmps67
  go_wp2
  go_loopw [8] (fun i wr => ∃ k : Nat, k ≤ n ∧ i = .int .i64 k ∧ idxR p (rs.drop k) k = V ∧ Below w.heap.size w wr) (fun i _ => n - (intOf i).toNat)
  case atStart => exact ⟨0, Nat.zero_le _, rfl, by rw [List.drop_zero, HV.out], Below.refl _ _⟩
  case round =>
    obtain ⟨k, hk, rfl, hd, hb⟩ := hrel
    by_cases hlt : k < n
    · have hkr : k < rs.length := by have := HM.out; omega
      rw [idxR_drop hkr] at hd
      obtain ⟨b, off, A', c', hA, hbl, k0, k1, hri⟩ := (HX.out.thru hb hB).at' hkr
      subst hA
      have hcall := HF.out k hkr A' c' wr hb hri
      obtain ⟨x, hxk⟩ : ∃ x, rs[k] = x := ⟨_, rfl⟩
      rw [hxk] at k0 k1 hd hcall
      have hkI : (k : Int) < n := by omega
      have HC1 := HC.out
      have HCL := Lib.hid hcall
      clear hri hxk hcall
      cases hp : p x with
      | true =>
        rw [hp, if_pos rfl] at hd
        have HCL2 : Hid (Calls Tryz.prog f (#[.agg #[.string x.id, .slice A' x.data.length c']] ++ caps) wr fun e w' => e = .returned (.bool true) ∧ Below wr.heap.size wr w') := by rw [hp] at HCL; exact HCL
        subst hd
        clear hp HV HCL HC1
        go_wp2
        rw [HC.out, Oper.upon_enter]
        refine HCL2.out.mono ?_
        rintro e w3 ⟨rfl, hb3⟩
        go_wp2
        go_ret
        exact ⟨rfl, hb.trans (hb3.mono hb.size)⟩
      | false =>
        rw [hp, if_neg (by simp)] at hd
        have HCL2 : Hid (Calls Tryz.prog f (#[.agg #[.string x.id, .slice A' x.data.length c']] ++ caps) wr fun e w' => e = .returned (.bool false) ∧ Below wr.heap.size wr w') := by rw [hp] at HCL; exact HCL
        have HD := Lib.hid hd
        clear hp hd HCL HC1
        go_wp2
        rw [HC.out, Oper.upon_enter]
        refine HCL2.out.mono ?_
        rintro e w3 ⟨rfl, hb3⟩
        go_wp2
        go_roundw
        case rel => exact ⟨k + 1, hlt, by go_num, HD.out, hb.trans (hb3.mono hb.size)⟩
        case measure => simp [intOf]; omega
    · obtain rfl : k = n := by omega
      rw [List.drop_of_length_le (by rw [HM.out]; exact Nat.le_refl _)] at hd
      have hv2 : V = -1 := by rw [← hd]; rfl
      subst hv2
      have hltd : decide ((k : Int) < k) = false := by simp
      clear hd HV
      go_wp2
      go_ret
      exact ⟨rfl, hb⟩
theorem containsR_any (rs : List RecC) (A : Option Addr) (c : Nat) (f : Nat) (caps : Array Value) (p : RecC → Bool) (w : World) {B : Nat} (hx : Recs w B A rs) (hB : B ≤ w.heap.size) (hn : rs.length ≤ 1000)
    (hC : ∀ args w, (callFunc f args).run Tryz.prog w = .ok (.enter f args) w) (hF : Tests w B f caps rs p) :
    Calls Tryz.prog 41 #[.slice A rs.length c, .func (.func f) #[] caps] w fun e w' => e = .returned (.bool (rs.any p)) ∧ Below w.heap.size w w' := by
  have hc := indexR_any rs A c f caps p w hx hB hn hC hF
  have hq := idxR_any p rs 0
  rw [← hq]
  obtain ⟨v, hv⟩ : ∃ v, idxR p rs 0 = v := ⟨_, rfl⟩
  rw [hv] at hc ⊢
  obtain ⟨n, hm⟩ : ∃ n, rs.length = n := ⟨_, rfl⟩
  rw [hm] at hc ⊢
  clear hq hv hx hn hC hF hm
  go_enter Tryz.func41, Tryz.ntmps41
  go_wp2_with fail
  refine hc.mono ?_
  rintro e w1 ⟨rfl, hb⟩
  go_wp2
  go_ret
  exact ⟨rfl, hb⟩
/-- a table's contents, in blocks below B -/
structure TabIn (w : World) (B : Nat) (t : TabC) (Au Ar : Option Addr) : Prop where
  us : Rd w B Au (sv t.us)
  rows : Recs w B Ar t.rows
  le : B ≤ w.heap.size
  tabs : Tabs w
  wf : ∀ r ∈ t.rows, RecW r
  ul : t.us.length ≤ 1000
  rl : t.rows.length ≤ 1000
theorem TabIn.below {w w' : World} {B : Nat} {t : TabC} {Au Ar : Option Addr} (h : TabIn w B t Au Ar) (hb : Below w.heap.size w w') : TabIn w' B t Au Ar :=
  ⟨h.us.thru hb h.le, h.rows.thru hb h.le, Nat.le_trans h.le hb.size, h.tabs.below hb, h.wf, h.ul, h.rl⟩
/-- a table under way -/
structure BookIn (w : World) (t : TabC) (bk : Nat) (Au : Option Addr) (cu : Nat) (Ar : Option Addr) (cr B : Nat) : Prop where
  lt : bk < w.heap.size
  c0 : w.cell? ⟨bk, 0, none⟩ = some (.string t.name)
  c1 : w.cell? ⟨bk, 1, none⟩ = some (.int .i64 t.most)
  c2 : w.cell? ⟨bk, 2, none⟩ = some (.slice Au t.us.length cu)
  c3 : w.cell? ⟨bk, 3, none⟩ = some (.slice Ar t.rows.length cr)
  tab : TabIn w B t Au Ar
theorem BookIn.below {w w' : World} {t : TabC} {bk : Nat} {Au : Option Addr} {cu : Nat} {Ar : Option Addr} {cr B : Nat} (h : BookIn w t bk Au cu Ar cr B) (hb : Below w.heap.size w w') : BookIn w' t bk Au cu Ar cr B :=
  ⟨Nat.lt_of_lt_of_le h.lt hb.size, (hb.cell (p := ⟨bk, 0, none⟩) h.lt).trans h.c0, (hb.cell (p := ⟨bk, 1, none⟩) h.lt).trans h.c1, (hb.cell (p := ⟨bk, 2, none⟩) h.lt).trans h.c2, (hb.cell (p := ⟨bk, 3, none⟩) h.lt).trans h.c3, h.tab.below hb⟩
theorem cell_new1 (w : World) (v : Value) (T : TypeId) : (w.alloc (.cells #[v] T)).cell? ⟨w.heap.size, 0, none⟩ = some v := box_keep (Below.refl _ _) 0 (by simp)
theorem SetsN.mono {w : World} {B B' : Nat} {A : Option Addr} {xss : List (List Cel)} (h : SetsN w B A xss) (hB : B ≤ B') : SetsN w B' A xss := by
  rcases h with rfl | ⟨b, off, e, hl, h⟩
  · exact .inl rfl
  · refine .inr ⟨b, off, e, by omega, fun k hk => ?_⟩
    obtain ⟨A', c, h1, h2, h3⟩ := h k hk
    exact ⟨A', c, h1, h2.mono hB, h3⟩
theorem enter_clash1 (args : Array Value) (w : World) : (callFunc 59 args).run Tryz.prog w = .ok (.enter 59 args) w :=
  enter_of Tryz.func59 (by kernel_rfl) rfl args w
set_option maxHeartbeats 4000000 in
theorem clash_any (t : TabC) (r : RecC) (bk : Nat) (Au : Option Addr) (cu : Nat) (Ar : Option Addr) (cr : Nat) (A : Option Addr) (c : Nat) (w : World) {B B' : Nat} (hb : BookIn w t bk Au cu Ar cr B) (h : RecIn w B' r.data A c) (hB' : B' ≤ w.heap.size) (hw : RecW r) :
    Calls Tryz.prog 30 #[.pointer (some ⟨bk, 0, none⟩), .agg #[.string r.id, .slice A r.data.length c]] w fun e w' => e = .returned (.bool (Tb.clashes ordC t r)) ∧ Below w.heap.size w w' := by
  obtain ⟨W1, hW1⟩ : ∃ W1, W1 = (w.alloc (.cells #[.pointer (some ⟨bk, 0, none⟩)] 51)).alloc (.cells #[.string r.id, .slice A r.data.length c] 28) := ⟨_, rfl⟩
  have hb1 : Below w.heap.size w W1 := by rw [hW1]; exact ((Below.refl _ _).alloc (Nat.le_refl _) _).alloc (by simp) _
  have hz1 : W1.heap.size = w.heap.size + 2 := by rw [hW1]; simp
  have kb : ∀ W, Below W1.heap.size W1 W → W.cell? ⟨w.heap.size, 0, none⟩ = some (.pointer (some ⟨bk, 0, none⟩)) := fun W q => by
    rw [hW1] at q
    rw [q.cell (p := ⟨w.heap.size, 0, none⟩) (by simp; omega)]
    have := box_keep (w := w) (cs := #[.pointer (some ⟨bk, 0, none⟩)]) (T := 51) (((Below.refl (w.alloc (.cells #[.pointer (some ⟨bk, 0, none⟩)] 51)).heap.size _).alloc (Nat.le_refl _) (.cells #[.string r.id, .slice A r.data.length c] 28))) 0 (by simp)
    exact this
  have kr : ∀ W, Below W1.heap.size W1 W → W.cell? ⟨w.heap.size + 1, 0, none⟩ = some (.string r.id) ∧ W.cell? ⟨w.heap.size + 1, 1, none⟩ = some (.slice A r.data.length c) := fun W q => by
    rw [hW1] at q
    have h0 := box_keep q 0 (by simp)
    have h1 := box_keep q 1 (by simp)
    simp only [World.size_alloc] at h0 h1
    exact ⟨h0, h1⟩
  have hbk1 := hb.below hb1
  have cval := values_any r A c t.us Au cu bk W1 ((h.thru hb1 hB').inn (Nat.le_trans hB' hb1.size) hw hbk1.tab.tabs) h.cap h.cm hbk1.tab.us hbk1.tab.le hb.tab.ul hbk1.lt hbk1.c2
  have cf : ∀ (U : World) (pm : Nat) (Am : Option Addr) (cm : Nat), Below W1.heap.size W1 U → pm < U.heap.size → W1.heap.size ≤ pm → U.cell? ⟨pm, 0, none⟩ = some (.slice Am t.us.length cm) → SetsN U U.heap.size Am (valsL r.data t.us) →
      Calls Tryz.prog 41 #[.slice Ar t.rows.length cr, .func (.func 59) #[] #[.pointer (some ⟨w.heap.size + 1, 0, none⟩), .pointer (some ⟨w.heap.size, 0, none⟩), .pointer (some ⟨pm, 0, none⟩)]] U fun e w' => e = .returned (.bool (Tb.clashes ordC t r)) ∧ Below U.heap.size U w' := by
    intro U pm Am cm q hpm _ hcm hsn
    have hbU := hbk1.below q
    have qs := q.size
    refine containsR_any t.rows Ar cr _ _ (fun x => !decide (x.id = r.id) && Tb.clash ordC t.us x r) U hbU.tab.rows hbU.tab.le hbU.tab.rl enter_clash1 ?_
    intro k hk A' c' W qW hri
    have qq := q.trans (qW.mono q.size)
    have hbW := hbU.below qW
    have qws := qW.size
    exact clash1_any t.rows[k] r A' c' t.us Au cu bk (w.heap.size + 1) w.heap.size pm Am cm W hri hbW.tab.le (hbW.tab.wf _ (List.getElem_mem hk)) hbW.tab.tabs hbW.tab.us hbW.tab.le hbW.tab.ul hbW.lt hbW.c2
      (by omega) (kr W qq).1 (by omega) (kb W qq) (by omega) ((qW.cell (p := ⟨pm, 0, none⟩) hpm).trans hcm) (hsn.thru qW (Nat.le_refl _)) qws
  have c2 := hbk1.c3
  have hz := hbk1.lt
  have HB1 := Lib.hid hb1
  have HKB := Lib.hid kb
  have HKR := Lib.hid kr
  have HCF := Lib.hid cf
  have HBK := Lib.hid hbk1
  obtain ⟨V, hV⟩ : ∃ V, Tb.clashes ordC t r = V := ⟨_, rfl⟩
  rw [hV] at HCF ⊢
  obtain ⟨m, hm⟩ : ∃ m, t.us.length = m := ⟨_, rfl⟩
  obtain ⟨n, hn⟩ : ∃ n, t.rows.length = n := ⟨_, rfl⟩
  unfold ValPost at cval
  rw [hm] at cval HCF
  rw [hn] at HCF c2
  clear hb h hB' hw hb1 kb kr cf hbk1 hV hm
  have HN := Lib.hid hn
  clear hn
  subst hW1
  go_enter Tryz.func30, Tryz.ntmps30
  go_wp2_with fail
  refine cval.mono ?_
  rintro e u1 ⟨Av, cvv, rfl, hsv, hbv⟩
  clear cval
  have HS := Lib.hid hsv
  clear hsv
  have hbm := HB1.out
  obtain ⟨k0, k1⟩ := HKR.out u1 hbv
  have kb0 := HKB.out u1 hbv
  have c3 := (hbv.cell (p := ⟨bk, 3, none⟩) hz).trans c2
  have hvs := hbv.size
  have z1 : w.heap.size < u1.heap.size := by omega
  have z2 : w.heap.size + 1 < u1.heap.size := by omega
  have z3 : bk < u1.heap.size := by omega
  have hU : Below u1.heap.size u1 (u1.alloc (.cells #[.slice Av m cvv] 78)) := (Below.refl _ _).alloc (Nat.le_refl _) _
  have hsn := HS.out.thru hU (Nat.le_refl _)
  have cF := HCF.out (u1.alloc (.cells #[.slice Av m cvv] 78)) u1.heap.size Av cvv (hbv.trans (hU.mono hvs)) (by simp) hvs (cell_new1 u1 _ _) (hsn.mono hU.size)
  have HU := Lib.hid hU
  clear hz1 hz hvs c2 hsn hU HCF
  go_wp2_with fail
  refine cF.mono ?_
  rintro e u2 ⟨rfl, hb2⟩
  clear cF
  have hU := HU.out
  go_wp2
  go_ret
  exact ⟨rfl, (hbm.trans ((hbv.trans (hU.mono hbv.size)).mono hbm.size)).trans (hb2.mono (Nat.le_trans hbm.size (Nat.le_trans hbv.size hU.size)))⟩
end
end Go.Proofs.YtcgioepbooafcaaGreatDoor
