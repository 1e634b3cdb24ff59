/- Tables in plain words, over any order of ids and any two tests of records: what is put is got and dropped again; order of two puts. Conditions: none. table.one: whether a record may be. Conditions: lengths within the model's; Go's two tables of utf8. A value's parts, in plain words: where they stand, and that they are put together again. Conditions: none. cell.Items, Members. Conditions: lengths within the model's; Go's two tables of utf8. cell.put, Items, Members: values put together. Conditions: lengths within the model's; Go's two tables of utf8. What cell.Items, Members put together, in plain words; subs put together again. Conditions: none. table's values: a record's members of some names, none of Nulls. Conditions: lengths within the model's; Go's two tables of utf8. -/
import Derived.Test.YtcgioepbooafcaaGreatDoorMFnU
import Derived.Test.YtcgioepbooafcaaGreatDoorMBase
namespace Go.Proofs.YtcgioepbooafcaaGreatDoor
section
namespace Tb
structure Rec (D : Type) where
  id : ByteArray
  data : D
structure Tab (D : Type) where
  name : ByteArray
  most : Int
  us : List ByteArray
  rows : List (Rec D)
/-- the order of ids, whether a record may be, a record's value of a name (none: there is none, or a Null) -/
structure Ord (D V : Type) where
  lt : ByteArray → ByteArray → Bool
  irr : ∀ a, lt a a = false
  tr : ∀ a b c, lt a b = true → lt b c = true → lt a c = true
  tot : ∀ a b, lt a b = false → lt b a = false → a = b
  one : Rec D → Bool
  val : D → ByteArray → Option V
  same : V → V → Bool
  sym : ∀ a b, same a b = same b a
section
variable {D V : Type} (O : Ord D V)
def S (rs : List (Rec D)) : Prop := rs.Pairwise fun a b => O.lt a.id b.id = true
def by1 (a b : Rec D) (u : ByteArray) : Bool := match O.val a.data u, O.val b.data u with
  | some x, some y => O.same x y
  | _, _ => false
def clash (us : List ByteArray) (a b : Rec D) : Bool := us.any (by1 O a b)
theorem clash_symm (us : List ByteArray) (a b : Rec D) : clash O us a b = clash O us b a := by
  unfold clash
  congr 1
  funext u
  unfold by1
  cases O.val a.data u <;> cases O.val b.data u <;> simp [O.sym]
def clashes (t : Tab D) (r : Rec D) : Bool := t.rows.any fun x => !decide (x.id = r.id) && clash O t.us x r
structure May (t : Tab D) : Prop where
  m1 : 1 ≤ t.most
  m2 : t.most ≤ 64
  len : (t.rows.length : Int) ≤ t.most
  s : S O t.rows
  nd : t.us.Nodup
  one : ∀ r ∈ t.rows, O.one r = true
  cl : ∀ r ∈ t.rows, clashes O t r = false
def hasId (rs : List (Rec D)) (id : ByteArray) : Bool := rs.any fun x => decide (x.id = id)
def ins (rs : List (Rec D)) (r : Rec D) : List (Rec D) := (rs.takeWhile fun x => O.lt x.id r.id) ++ r :: (rs.dropWhile fun x => O.lt x.id r.id)
def setR (rs : List (Rec D)) (r : Rec D) : List (Rec D) := rs.map fun x => if x.id = r.id then r else x
def delR (rs : List (Rec D)) (id : ByteArray) : List (Rec D) := rs.filter fun x => !decide (x.id = id)
theorem hasId_iff {rs : List (Rec D)} {id : ByteArray} : hasId rs id = true ↔ ∃ x ∈ rs, x.id = id := by
  unfold hasId
  simp
theorem hasId_false {rs : List (Rec D)} {id : ByteArray} : hasId rs id = false ↔ ∀ x ∈ rs, x.id ≠ id := by
  unfold hasId
  simp
variable {O}
theorem lt_ne {a b : ByteArray} (h : O.lt a b = true) : a ≠ b := by
  rintro rfl
  rw [O.irr] at h
  cases h
theorem lt_asymm {a b : ByteArray} (h : O.lt a b = true) : O.lt b a = false := by
  cases g : O.lt b a with
  | false => rfl
  | true =>
    have := O.tr _ _ _ h g
    rw [O.irr] at this
    cases this
/-- rising lists with the same members are the same -/
theorem S_ext : ∀ {l m : List (Rec D)}, S O l → S O m → (∀ x, x ∈ l ↔ x ∈ m) → l = m
  | [], [], _, _, _ => rfl
  | [], y :: m, _, _, h => by have := (h y).2 (by simp); cases this
  | x :: l, [], _, _, h => by have := (h x).1 (by simp); cases this
  | x :: l, y :: m, hl, hm, h => by
    have hl' := List.pairwise_cons.1 hl
    have hm' := List.pairwise_cons.1 hm
    have hxy : x = y := by
      rcases List.mem_cons.1 ((h x).1 (by simp)) with e | h1
      · exact e
      · rcases List.mem_cons.1 ((h y).2 (by simp)) with e | h2
        · exact e.symm
        · have a := hm'.1 x h1
          have b := hl'.1 y h2
          rw [lt_asymm a] at b
          cases b
    subst hxy
    congr 1
    refine S_ext hl'.2 hm'.2 fun z => ?_
    constructor
    · intro hz
      rcases List.mem_cons.1 ((h z).1 (by simp [hz])) with e | h1
      · subst e
        have := hl'.1 z hz
        rw [O.irr] at this
        cases this
      · exact h1
    · intro hz
      rcases List.mem_cons.1 ((h z).2 (by simp [hz])) with e | h1
      · subst e
        have := hm'.1 z hz
        rw [O.irr] at this
        cases this
      · exact h1
theorem S_id {rs : List (Rec D)} (h : S O rs) {a b : Rec D} (ha : a ∈ rs) (hb : b ∈ rs) (e : a.id = b.id) : a = b := by
  induction rs with
  | nil => cases ha
  | cons x l ih =>
    have h' := List.pairwise_cons.1 h
    rcases List.mem_cons.1 ha with ea | ha' <;> rcases List.mem_cons.1 hb with eb | hb'
    · rw [ea, eb]
    · rw [ea] at e; exact absurd e (lt_ne (h'.1 b hb'))
    · rw [eb] at e; exact absurd e.symm (lt_ne (h'.1 a ha'))
    · exact ih h'.2 ha' hb'
theorem mem_ins {rs : List (Rec D)} {r x : Rec D} : x ∈ ins O rs r ↔ x = r ∨ x ∈ rs := by
  unfold ins
  rw [List.mem_append, List.mem_cons]
  constructor
  · rintro (h | h | h)
    · exact .inr ((List.takeWhile_prefix _).subset h)
    · exact .inl h
    · exact .inr ((List.dropWhile_suffix _).subset h)
  · rintro (h | h)
    · exact .inr (.inl h)
    · rw [← List.takeWhile_append_dropWhile (p := fun x : Rec D => O.lt x.id r.id) (l := rs)] at h
      rcases List.mem_append.1 h with h | h
      · exact .inl h
      · exact .inr (.inr h)
theorem ins_len (rs : List (Rec D)) (r : Rec D) : (ins O rs r).length = rs.length + 1 := by
  have := congrArg List.length (List.takeWhile_append_dropWhile (p := fun x : Rec D => O.lt x.id r.id) (l := rs))
  rw [List.length_append] at this
  unfold ins
  rw [List.length_append, List.length_cons]
  omega
theorem take_lt {rs : List (Rec D)} {s : ByteArray} : ∀ x ∈ rs.takeWhile (fun x => O.lt x.id s), O.lt x.id s = true := by
  intro x hx
  have := List.all_takeWhile (l := rs) (p := fun x : Rec D => O.lt x.id s)
  rw [List.all_eq_true] at this
  exact this x hx
theorem drop_gt {s : ByteArray} : ∀ {rs : List (Rec D)}, S O rs → (∀ x ∈ rs, x.id ≠ s) → ∀ x ∈ rs.dropWhile (fun x => O.lt x.id s), O.lt s x.id = true
  | [], _, _, x, hx => by cases hx
  | y :: l, h, hn, x, hx => by
    have h' := List.pairwise_cons.1 h
    rw [List.dropWhile_cons] at hx
    split at hx
    · exact drop_gt h'.2 (fun z hz => hn z (by simp [hz])) x hx
    · rename_i hy
      have hy' : O.lt s y.id = true := by
        cases g : O.lt s y.id with
        | true => rfl
        | false => exact absurd (O.tot _ _ (by simpa using hy) g) (hn y (by simp))
      rcases List.mem_cons.1 hx with e | hx
      · rw [e]; exact hy'
      · exact O.tr _ _ _ hy' (h'.1 x hx)
theorem S_ins {rs : List (Rec D)} {r : Rec D} (h : S O rs) (hn : ∀ x ∈ rs, x.id ≠ r.id) : S O (ins O rs r) := by
  unfold ins S
  rw [List.pairwise_append, List.pairwise_cons]
  have h1 : S O (rs.takeWhile fun x => O.lt x.id r.id) := List.Pairwise.sublist (List.takeWhile_sublist _) h
  have h2 : S O (rs.dropWhile fun x => O.lt x.id r.id) := List.Pairwise.sublist (List.dropWhile_sublist _) h
  refine ⟨h1, ⟨fun x hx => drop_gt h hn x hx, h2⟩, fun a ha b hb => ?_⟩
  have hta := take_lt a ha
  rcases List.mem_cons.1 hb with e | hb
  · rw [e]; exact hta
  · exact O.tr _ _ _ hta (drop_gt h hn b hb)
theorem mem_set {rs : List (Rec D)} {r x : Rec D} (hr : hasId rs r.id = true) : x ∈ setR rs r ↔ x = r ∨ (x ∈ rs ∧ x.id ≠ r.id) := by
  unfold setR
  rw [List.mem_map]
  constructor
  · rintro ⟨y, hy, e⟩
    by_cases h : y.id = r.id
    · rw [if_pos h] at e
      exact .inl e.symm
    · rw [if_neg h] at e
      subst e
      exact .inr ⟨hy, h⟩
  · rintro (e | ⟨h1, h2⟩)
    · obtain ⟨y, hy, e2⟩ := hasId_iff.1 hr
      exact ⟨y, hy, by rw [if_pos e2, e]⟩
    · exact ⟨x, h1, by rw [if_neg h2]⟩
theorem S_set {rs : List (Rec D)} {r : Rec D} (h : S O rs) : S O (setR rs r) := by
  unfold setR S
  rw [List.pairwise_map]
  refine h.imp fun {a b} hab => ?_
  have ea : (if a.id = r.id then r else a).id = a.id := by split <;> simp_all
  have eb : (if b.id = r.id then r else b).id = b.id := by split <;> simp_all
  rw [ea, eb]
  exact hab
theorem mem_del {rs : List (Rec D)} {id : ByteArray} {x : Rec D} : x ∈ delR rs id ↔ x ∈ rs ∧ x.id ≠ id := by
  unfold delR
  simp
theorem S_del {rs : List (Rec D)} {id : ByteArray} (h : S O rs) : S O (delR rs id) := List.Pairwise.sublist List.filter_sublist h
theorem clashes_false {t : Tab D} {r : Rec D} : clashes O t r = false ↔ ∀ x ∈ t.rows, x.id ≠ r.id → clash O t.us x r = false := by
  unfold clashes
  rw [List.any_eq_false]
  constructor
  · intro h x hx hne
    have := h x hx
    rw [decide_eq_false hne] at this
    simpa using this
  · intro h x hx
    by_cases e : x.id = r.id
    · rw [decide_eq_true e]; simp
    · rw [h x hx e]; simp
theorem may_put {t : Tab D} {r : Rec D} (h : May O t) (h1 : O.one r = true) (h2 : hasId t.rows r.id = false) (h3 : clashes O t r = false) (h4 : (t.rows.length : Int) < t.most) : May O { t with rows := ins O t.rows r } := by
  have hn := hasId_false.1 h2
  refine ⟨h.m1, h.m2, ?_, S_ins h.s hn, h.nd, fun x hx => ?_, fun x hx => ?_⟩
  · show ((ins O t.rows r).length : Int) ≤ t.most
    rw [ins_len]; omega
  · rcases mem_ins.1 hx with e | hx
    · rw [e]; exact h1
    · exact h.one x hx
  · rw [clashes_false]
    intro y hy hne
    rcases mem_ins.1 hy with ey | hy <;> rcases mem_ins.1 hx with ex | hx
    · rw [ey, ex] at hne; exact absurd rfl hne
    · rw [ey, clash_symm]; exact clashes_false.1 h3 x hx (by rw [ey] at hne; exact fun e => hne e.symm)
    · rw [ex]; exact clashes_false.1 h3 y hy (by rw [ex] at hne; exact hne)
    · exact clashes_false.1 (h.cl x hx) y hy hne
theorem may_set {t : Tab D} {r : Rec D} (h : May O t) (h1 : O.one r = true) (h2 : hasId t.rows r.id = true) (h3 : clashes O t r = false) : May O { t with rows := setR t.rows r } := by
  refine ⟨h.m1, h.m2, ?_, S_set h.s, h.nd, fun x hx => ?_, fun x hx => ?_⟩
  · show ((setR t.rows r).length : Int) ≤ t.most
    unfold setR
    rw [List.length_map]; exact h.len
  · rcases (mem_set h2).1 hx with e | hx
    · rw [e]; exact h1
    · exact h.one x hx.1
  · rw [clashes_false]
    intro y hy hne
    rcases (mem_set h2).1 hy with ey | hy <;> rcases (mem_set h2).1 hx with ex | hx
    · rw [ey, ex] at hne; exact absurd rfl hne
    · rw [ey, clash_symm]; exact clashes_false.1 h3 x hx.1 hx.2
    · rw [ex]; exact clashes_false.1 h3 y hy.1 hy.2
    · exact clashes_false.1 (h.cl x hx.1) y hy.1 hne
def getI (rs : List (Rec D)) (id : ByteArray) : Option (Rec D) := rs.find? fun x => decide (x.id = id)
theorem getI_of {rs : List (Rec D)} (h : S O rs) {x : Rec D} (hx : x ∈ rs) : getI rs x.id = some x := by
  cases g : getI rs x.id with
  | none =>
    unfold getI at g
    rw [List.find?_eq_none] at g
    have := g x hx
    simp at this
  | some y =>
    have h1 := List.mem_of_find?_eq_some g
    have h2 := List.find?_some g
    rw [S_id h h1 hx (by simpa using h2)]
theorem getI_none {rs : List (Rec D)} {id : ByteArray} : getI rs id = none ↔ hasId rs id = false := by
  unfold getI
  rw [List.find?_eq_none, hasId_false]
  simp
theorem getI_same {l m : List (Rec D)} (_ : S O l) (hm : S O m) {id : ByteArray} (h : ∀ x : Rec D, x.id = id → (x ∈ l ↔ x ∈ m)) : getI l id = getI m id := by
  cases g : getI l id with
  | none =>
    have h1 := hasId_false.1 (getI_none.1 g)
    refine (getI_none.2 (hasId_false.2 fun x hx e => h1 x ((h x e).2 hx) e)).symm
  | some y =>
    have h1 := List.mem_of_find?_eq_some g
    have h2 : y.id = id := by simpa using List.find?_some g
    have := getI_of hm ((h y h2).1 h1)
    rw [h2] at this
    exact this.symm
/-- what Put, Set, Drop, Get tell -/
def zero : Tab D := ⟨⟨#[]⟩, 0, [], []⟩
open Classical in
noncomputable def put (O : Ord D V) (t : Tab D) (r : Rec D) : Tab D × Int :=
  if May O t then (if O.one r = true then (if hasId t.rows r.id = true ∨ clashes O t r = true then (zero, 271) else if (t.rows.length : Int) = t.most then (zero, 272) else ({ t with rows := ins O t.rows r }, 0)) else (zero, 8)) else (zero, 8)
open Classical in
noncomputable def set (O : Ord D V) (t : Tab D) (r : Rec D) : Tab D × Int :=
  if May O t then (if O.one r = true then (if hasId t.rows r.id = false then (zero, 270) else if clashes O t r = true then (zero, 271) else ({ t with rows := setR t.rows r }, 0)) else (zero, 8)) else (zero, 8)
open Classical in
noncomputable def drop (O : Ord D V) (t : Tab D) (id : ByteArray) : Tab D × Int :=
  if May O t then (if hasId t.rows id = false then (zero, 270) else ({ t with rows := delR t.rows id }, 0)) else (zero, 8)
open Classical in
noncomputable def get (O : Ord D V) (t : Tab D) (id : ByteArray) : Option (Rec D) := if May O t then getI t.rows id else none
theorem put_ok {t x : Tab D} {r : Rec D} (h : put O t r = (x, 0)) : May O t ∧ O.one r = true ∧ hasId t.rows r.id = false ∧ clashes O t r = false ∧ (t.rows.length : Int) < t.most ∧ x = { t with rows := ins O t.rows r } := by
  unfold put at h
  split at h
  · rename_i hM
    split at h
    · rename_i h1
      split at h
      · cases h
      · rename_i h2
        split at h
        · cases h
        · rename_i h3
          refine ⟨hM, h1, by simpa using fun e => h2 (.inl e), by simpa using fun e => h2 (.inr e), by have := hM.len; omega, ?_⟩
          have := congrArg Prod.fst h
          exact this.symm
    · cases h
  · cases h
theorem put_bad {t x : Tab D} {r : Rec D} {e : Int} (h : put O t r = (x, e)) (he : e ≠ 0) : x = zero := by
  unfold put at h
  repeat' split at h
  all_goals first | exact (congrArg Prod.fst h).symm | exact absurd (congrArg Prod.snd h).symm he
theorem set_bad {t x : Tab D} {r : Rec D} {e : Int} (h : set O t r = (x, e)) (he : e ≠ 0) : x = zero := by
  unfold set at h
  repeat' split at h
  all_goals first | exact (congrArg Prod.fst h).symm | exact absurd (congrArg Prod.snd h).symm he
theorem put_mk {t : Tab D} {r : Rec D} (h : May O t) (h1 : O.one r = true) (h2 : hasId t.rows r.id = false) (h3 : clashes O t r = false) (h4 : (t.rows.length : Int) < t.most) : put O t r = ({ t with rows := ins O t.rows r }, 0) := by
  unfold put
  rw [if_pos h, if_pos h1, if_neg (by rw [h2, h3]; simp), if_neg (by omega)]
theorem set_ok {t x : Tab D} {r : Rec D} (h : set O t r = (x, 0)) : May O t ∧ O.one r = true ∧ hasId t.rows r.id = true ∧ clashes O t r = false ∧ x = { t with rows := setR t.rows r } := by
  unfold set at h
  split at h
  · rename_i hM
    split at h
    · rename_i h1
      split at h
      · cases h
      · rename_i h2
        split at h
        · cases h
        · rename_i h3
          exact ⟨hM, h1, by simpa using h2, by simpa using h3, (congrArg Prod.fst h).symm⟩
    · cases h
  · cases h
theorem set_mk {t : Tab D} {r : Rec D} (h : May O t) (h1 : O.one r = true) (h2 : hasId t.rows r.id = true) (h3 : clashes O t r = false) : set O t r = ({ t with rows := setR t.rows r }, 0) := by
  unfold set
  rw [if_pos h, if_pos h1, if_neg (by rw [h2]; simp), if_neg (by rw [h3]; simp)]
theorem drop_mk {t : Tab D} {id : ByteArray} (h : May O t) (h2 : hasId t.rows id = true) : drop O t id = ({ t with rows := delR t.rows id }, 0) := by
  unfold drop
  rw [if_pos h, if_neg (by rw [h2]; simp)]
/-- THE LAW TableBack -/
theorem back {t x : Tab D} {r : Rec D} (h : put O t r = (x, 0)) (id : ByteArray) :
    May O x ∧ get O x r.id = some r ∧ drop O x r.id = (t, 0) ∧ put O x r = (zero, 271) ∧ (id ≠ r.id → get O x id = get O t id) := by
  obtain ⟨hM, h1, h2, h3, h4, rfl⟩ := put_ok h
  have hX := may_put hM h1 h2 h3 h4
  have hin : r ∈ ins O t.rows r := mem_ins.2 (.inl rfl)
  have hh : hasId (ins O t.rows r) r.id = true := hasId_iff.2 ⟨r, hin, rfl⟩
  refine ⟨hX, ?_, ?_, ?_, fun hne => ?_⟩
  · unfold get
    rw [if_pos hX]
    exact getI_of hX.s hin
  · rw [drop_mk hX hh]
    congr 1
    have : delR (ins O t.rows r) r.id = t.rows := by
      refine S_ext (S_del hX.s) hM.s fun y => ?_
      rw [mem_del, mem_ins]
      constructor
      · rintro ⟨e | hy, hne⟩
        · rw [e] at hne; exact absurd rfl hne
        · exact hy
      · intro hy
        exact ⟨.inr hy, hasId_false.1 h2 y hy⟩
    show ({ t with rows := delR (ins O t.rows r) r.id } : Tab D) = t
    rw [this]
  · unfold put
    rw [if_pos hX, if_pos h1, if_pos (.inl hh)]
  · unfold get
    rw [if_pos hX, if_pos hM]
    refine getI_same hX.s hM.s fun y hy => ?_
    show y ∈ ins O t.rows r ↔ _
    rw [mem_ins]
    constructor
    · rintro (e | h)
      · rw [e] at hy; exact absurd hy.symm hne
      · exact h
    · exact .inr
/-- THE LAW TableSets -/
theorem sets {t x : Tab D} {r : Rec D} (h : set O t r = (x, 0)) (id : ByteArray) :
    May O x ∧ (∃ old, get O t r.id = some old ∧ set O x old = (t, 0)) ∧ get O x r.id = some r ∧ x.rows.length = t.rows.length ∧ (id ≠ r.id → get O x id = get O t id) := by
  obtain ⟨hM, h1, h2, h3, rfl⟩ := set_ok h
  have hX := may_set hM h1 h2 h3
  have hin : r ∈ setR t.rows r := (mem_set h2).2 (.inl rfl)
  obtain ⟨old, hold, ho⟩ := hasId_iff.1 h2
  have hg : getI t.rows r.id = some old := by rw [← ho]; exact getI_of hM.s hold
  refine ⟨hX, ⟨old, by unfold get; rw [if_pos hM]; exact hg, ?_⟩, ?_, by simp [setR], fun hne => ?_⟩
  · have hh : hasId (setR t.rows r) old.id = true := hasId_iff.2 ⟨r, hin, ho.symm⟩
    have hc : clashes O { t with rows := setR t.rows r } old = false := by
      rw [clashes_false]
      intro y hy hne
      rcases (mem_set h2).1 hy with e | hy
      · rw [e, ho] at hne; exact absurd rfl hne
      · exact clashes_false.1 (hM.cl old hold) y hy.1 hne
    rw [set_mk hX (hM.one old hold) hh hc]
    have : setR (setR t.rows r) old = t.rows := by
      refine S_ext (S_set hX.s) hM.s fun y => ?_
      rw [mem_set hh, mem_set h2]
      constructor
      · rintro (e | ⟨e | hy, hne⟩)
        · rw [e]; exact hold
        · rw [e, ho] at hne; exact absurd rfl hne
        · exact hy.1
      · intro hy
        by_cases e : y.id = old.id
        · exact .inl (S_id hM.s hy hold e)
        · exact .inr ⟨.inr ⟨hy, by rw [← ho]; exact e⟩, e⟩
    show (({ t with rows := setR (setR t.rows r) old } : Tab D), (0 : Int)) = (t, 0)
    rw [this]
  · unfold get
    rw [if_pos hX]
    exact getI_of hX.s hin
  · unfold get
    rw [if_pos hX, if_pos hM]
    refine getI_same hX.s hM.s fun y hy => ?_
    show y ∈ setR t.rows r ↔ _
    rw [mem_set h2]
    constructor
    · rintro (e | h)
      · rw [e] at hy; exact absurd hy.symm hne
      · exact h.1
    · intro h
      exact .inr ⟨h, by rw [hy]; exact hne⟩
theorem put_zero (r : Rec D) : put O zero r = (zero, 8) := by
  unfold put
  rw [if_neg]
  intro h
  have := h.m1
  simp [zero] at this
/-- THE LAW TableOrder -/
theorem order_ok {t x y : Tab D} {a b : Rec D} (h1 : put O t a = (x, 0)) (h2 : put O x b = (y, 0)) : ∃ z, put O t b = (z, 0) ∧ put O z a = (y, 0) := by
  obtain ⟨hM, p1, p2, p3, p4, rfl⟩ := put_ok h1
  obtain ⟨hX, q1, q2, q3, q4, rfl⟩ := put_ok h2
  have hl : ((ins O t.rows a).length : Int) < t.most := q4
  rw [ins_len] at hl
  have hab : a.id ≠ b.id := hasId_false.1 q2 a (mem_ins.2 (.inl rfl))
  have r2 : hasId t.rows b.id = false := hasId_false.2 fun x hx => hasId_false.1 q2 x (mem_ins.2 (.inr hx))
  have r3 : clashes O t b = false := clashes_false.2 fun x hx => clashes_false.1 q3 x (mem_ins.2 (.inr hx))
  have e1 := put_mk hM q1 r2 r3 (by omega)
  have hZ := may_put hM q1 r2 r3 (by omega)
  refine ⟨_, e1, ?_⟩
  have s2 : hasId (ins O t.rows b) a.id = false := hasId_false.2 fun x hx => by
    rcases mem_ins.1 hx with e | hx
    · rw [e]; exact hab.symm
    · exact hasId_false.1 p2 x hx
  have s3 : clashes O { t with rows := ins O t.rows b } a = false := clashes_false.2 fun x hx hne => by
    rcases mem_ins.1 hx with e | hx
    · rw [e, clash_symm]
      exact clashes_false.1 q3 a (mem_ins.2 (.inl rfl)) hab
    · exact clashes_false.1 p3 x hx hne
  have s4 : (({ t with rows := ins O t.rows b } : Tab D).rows.length : Int) < t.most := by
    show ((ins O t.rows b).length : Int) < t.most
    rw [ins_len]; omega
  rw [put_mk hZ p1 s2 s3 s4]
  have hY := may_put hX q1 q2 q3 q4
  have hW := may_put hZ p1 s2 s3 s4
  have : ins O (ins O t.rows b) a = ins O (ins O t.rows a) b := by
    refine S_ext hW.s hY.s fun x => ?_
    show x ∈ ins O (ins O t.rows b) a ↔ x ∈ ins O (ins O t.rows a) b
    rw [mem_ins, mem_ins, mem_ins, mem_ins]
    constructor
    · rintro (h | h | h)
      · exact .inr (.inl h)
      · exact .inl h
      · exact .inr (.inr h)
    · rintro (h | h | h)
      · exact .inr (.inl h)
      · exact .inl h
      · exact .inr (.inr h)
  show (({ t with rows := ins O (ins O t.rows b) a } : Tab D), (0 : Int)) = _
  rw [this]
end
end Tb
end
section
open Go.RowKit
abbrev RecC := Tb.Rec (List Cel)
abbrev TabC := Tb.Tab (List Cel)
theorem box_keep {w W : World} {cs : Array Value} {T : TypeId} (q : Below (w.alloc (.cells cs T)).heap.size (w.alloc (.cells cs T)) W) (i : Nat) (h : i < cs.size) : W.cell? ⟨w.heap.size, i, none⟩ = some cs[i] := by
  rw [q.cell (p := ⟨w.heap.size, i, none⟩) (by simp)]
  rw [cell_of_row _ w.heap.size i _ _ (0, 0) (by simp only [heap_alloc_new]; rfl), Array.getElem?_eq_getElem]
def isV (c : Cel) : Bool := (c.kind : Int) == 5
def idxV : List Cel → Nat → Int
  | [], _ => -1
  | c :: r, j => if isV c = true then (j : Int) else idxV r (j + 1)
theorem idxV_any : ∀ (l : List Cel) (j : Nat), decide (0 ≤ idxV l j) = l.any isV
  | [], j => by simp [idxV]
  | c :: r, j => by
    rw [idxV, List.any_cons]
    cases h : isV c with
    | true => simp
    | false => simp [idxV_any r (j + 1)]
theorem idxV_drop {l : List Cel} {k : Nat} (h : k < l.length) (j : Nat) : idxV (l.drop k) j = if isV l[k] = true then (j : Int) else idxV (l.drop (k + 1)) (j + 1) := by
  rw [List.drop_eq_getElem_cons h, idxV]
theorem one1_any (c : Cel) (w : World) : Calls Tryz.prog 56 #[.agg #[.int .u8 c.kind, .string c.name, .string c.text, .int .i64 c.num, .int .i64 c.many]] w fun e w' => e = .returned (.bool (isV c)) ∧ Below w.heap.size w w' := by
  unfold isV
  obtain ⟨v, hv⟩ : ∃ v, ((c.kind : Int) == 5) = v := ⟨_, rfl⟩
  rw [hv]
  go_enter Tryz.func56, Tryz.ntmps56
  go_wp2
  all_goals go_ret
  all_goals exact ⟨rfl, (Below.refl _ _).alloc (Nat.le_refl _) _⟩
set_option maxHeartbeats 2000000 in
theorem indexV_any {xs : List Cel} (A : Option Addr) (cap : Nat) (w : World) {B : Nat} (hx : Rd w B A (cv xs)) (hB : B ≤ w.heap.size) (hn : xs.length ≤ 1000000000) :
    Calls Tryz.prog 72 #[.slice A xs.length cap, .func (.func 56) #[] #[]] w fun e w' => e = .returned (.int .i64 (idxV xs 0)) ∧ Below w.heap.size w w' := by
  obtain ⟨V, hV⟩ : ∃ V, idxV xs 0 = V := ⟨_, rfl⟩
  rw [hV]
  have HV := Lib.hid hV
  clear hV
  go_enter Tryz.func72, Tryz.ntmps72
  go_wp2
  go_loopw [8] (fun i wr => ∃ k : Nat, k ≤ xs.length ∧ i = .int .i64 k ∧ idxV (xs.drop k) k = V ∧ Below w.heap.size w wr) (fun i _ => xs.length - (intOf i).toNat)
  case atStart => exact ⟨0, Nat.zero_le _, rfl, by rw [List.drop_zero, HV.out], Below.refl _ _⟩
  case round =>
    obtain ⟨k, hk, rfl, hd, hb⟩ := hrel
    by_cases hlt : k < xs.length
    · rw [idxV_drop hlt] at hd
      obtain ⟨b, off, rfl, hbl, c0, c1, c2, c3, c4⟩ := hx.cel1 (List.getElem?_eq_getElem hlt)
      have kx : ∀ o v, w.cell? ⟨b, o, none⟩ = some v → wr.cell? ⟨b, o, none⟩ = some v := fun o v g => (hb.cell (p := ⟨b, o, none⟩) (by show b < w.heap.size; omega)).trans g
      replace c0 := kx _ _ c0
      replace c1 := kx _ _ c1
      replace c2 := kx _ _ c2
      replace c3 := kx _ _ c3
      replace c4 := kx _ _ c4
      obtain ⟨x, hxk⟩ : ∃ x, xs[k] = x := ⟨_, rfl⟩
      rw [hxk] at c0 c1 c2 c3 c4 hd
      have hlI : (k : Int) < xs.length := by omega
      have hltd : decide ((k : Int) < xs.length) = true := by simp; omega
      have hcall := one1_any x wr
      have HX := Lib.hid hx
      clear hx hxk kx
      cases hp : isV x with
      | true =>
        rw [hp, if_pos rfl] at hd
        subst hd
        rw [hp] at hcall
        clear hp HV
        go_wp2_with (go_at_call 56; refine hcall.mono ?_; rintro e w3 ⟨rfl, hb3⟩)
        go_ret
        exact ⟨rfl, hb.trans (hb3.mono hb.size)⟩
      | false =>
        rw [hp, if_neg (by simp)] at hd
        rw [hp] at hcall
        have HD := Lib.hid hd
        clear hp hd
        go_wp2_with (go_at_call 56; refine hcall.mono ?_; rintro e w3 ⟨rfl, hb3⟩)
        go_roundw
        case rel => exact ⟨k + 1, hlt, by go_num, HD.out, hb.trans (hb3.mono hb.size)⟩
        case measure => simp [intOf]; omega
    · obtain rfl : k = xs.length := by omega
      rw [List.drop_of_length_le (Nat.le_refl _)] at hd
      have hv2 : V = -1 := by rw [← hd]; rfl
      subst hv2
      have hltd : decide ((xs.length : Int) < xs.length) = false := by simp
      clear hd HV
      go_wp2
      go_ret
      exact ⟨rfl, hb⟩
theorem containsV_any {xs : List Cel} (A : Option Addr) (cap : Nat) (w : World) {B : Nat} (hx : Rd w B A (cv xs)) (hB : B ≤ w.heap.size) (hn : xs.length ≤ 1000000000) :
    Calls Tryz.prog 55 #[.slice A xs.length cap, .func (.func 56) #[] #[]] w fun e w' => e = .returned (.bool (xs.any isV)) ∧ Below w.heap.size w w' := by
  have hc := indexV_any A cap w hx hB hn
  have hq := idxV_any xs 0
  rw [← hq]
  obtain ⟨v, hv⟩ : ∃ v, idxV xs 0 = v := ⟨_, rfl⟩
  rw [hv] at hc ⊢
  clear hq hv
  go_enter Tryz.func55, Tryz.ntmps55
  go_wp2_with fail
  refine hc.mono ?_
  rintro e w1 ⟨rfl, hb⟩
  go_wp2
  go_ret
  exact ⟨rfl, hb⟩
def textAt (xs : List Cel) (q : Nat) : ByteArray := match xs[q]? with
  | none => e0
  | some c => c.text
def idB : ByteArray := ⟨#[105, 100]⟩
def idOk (r : RecC) : Option Nat → Bool
  | none => false
  | some q => ((kindAt r.data q : Int) == 3) && decide (textAt r.data q = r.id)
def oneR (r : RecC) : Bool := mayC r.data && (!(r.data.any isV) && idOk r (memR r.data 0 idB))
theorem memR_lt {xs : List Cel} {a : Int} {nm : ByteArray} {q : Nat} (h : memR xs a nm = some q) : mayC xs = true ∧ 0 ≤ a ∧ a < xs.length ∧ q ∈ kidL xs a.toNat ∧ q < xs.length := by
  unfold memR at h
  split at h
  · rename_i hc
    obtain ⟨hm, h0, h1⟩ := askedC_ok hc.1
    have hk := List.mem_of_find?_eq_some h
    refine ⟨hm, h0, by omega, hk, ?_⟩
    exact kidL_lt (may_ends hm h1).1 q hk
  · cases h
set_option maxHeartbeats 4000000 in
theorem one_any (r : RecC) (A : Option Addr) (c : Nat) (w : World) {B : Nat} (h : In r.data A w B) (hn : r.data.length ≤ 1000000000) :
    Calls Tryz.prog 29 #[.agg #[.string r.id, .slice A r.data.length c]] w fun e w' => e = .returned (.bool (oneR r)) ∧ Below w.heap.size w w' := by
  obtain ⟨W0, hW0⟩ : ∃ W0, W0 = w.alloc (.cells #[.string r.id, .slice A r.data.length c] 28) := ⟨_, rfl⟩
  have hb0 : Below w.heap.size w W0 := by rw [hW0]; exact (Below.refl _ _).alloc (Nat.le_refl _) _
  have kk : ∀ W, Below W0.heap.size W0 W → W.cell? ⟨w.heap.size, 0, none⟩ = some (.string r.id) ∧ W.cell? ⟨w.heap.size, 1, none⟩ = some (.slice A r.data.length c) := by
    rw [hW0]
    exact fun W q => ⟨box_keep q 0 (by simp), box_keep q 1 (by simp)⟩
  have bw : ∀ W, Below W0.heap.size W0 W → Below w.heap.size w W := fun W q => hb0.trans (q.mono hb0.size)
  have c1 := check_any2 A c W0 (h.below hb0)
  have c2 := fun W (q : Below W0.heap.size W0 W) => containsV_any A c W (h.rd.thru (bw W q) h.le) (Nat.le_trans h.le (bw W q).size) hn
  have c3 := fun W (q : Below W0.heap.size W0 W) => member_any A c 0 idB W (h.below (bw W q))
  have hcel : ∀ q, memR r.data 0 idB = some q → ∃ b off, A = some ⟨b, off, none⟩ ∧ (q : Int) < r.data.length ∧ ∀ W, Below W0.heap.size W0 W → W.cell? ⟨b, off + q * 5, none⟩ = some (.int .u8 (kindAt r.data q)) ∧ W.cell? ⟨b, off + q * 5 + 2, none⟩ = some (.string (textAt r.data q)) := by
    intro q hq
    have hl := (memR_lt hq).2.2.2.2
    obtain ⟨b, off, e, hbl, g0, g1, g2, g3, g4⟩ := h.rd.cel1 (List.getElem?_eq_getElem hl)
    refine ⟨b, off, e, by omega, fun W qq => ?_⟩
    have hx : ∀ o, W.cell? ⟨b, o, none⟩ = w.cell? ⟨b, o, none⟩ := fun o => (bw W qq).cell (p := ⟨b, o, none⟩) (by have := h.le; show b < w.heap.size; omega)
    rw [hx, hx, g0, g2, kindAt, textAt, List.getElem?_eq_getElem hl]
    exact ⟨rfl, rfl⟩
  have HB := Lib.hid bw
  have HC := Lib.hid hcel
  have HK := Lib.hid kk
  unfold oneR
  unfold checkC at c1
  clear h hcel bw kk
  cases hm : mayC r.data with
  | false =>
    rw [hm] at c1
    rw [Bool.false_and]
    clear c2 c3 hm
    subst hW0
    go_enter Tryz.func29, Tryz.ntmps29
    go_wp2_with fail
    refine c1.mono ?_
    rintro e w1 ⟨rfl, hb1⟩
    go_wp2
    go_ret
    exact ⟨rfl, HB.out _ hb1⟩
  | true =>
    rw [hm] at c1
    rw [Bool.true_and]
    clear hm
    cases hv : r.data.any isV with
    | true =>
      simp only [hv] at c2
      rw [Bool.not_true, Bool.false_and]
      clear hv c3
      subst hW0
      go_enter Tryz.func29, Tryz.ntmps29
      go_wp2_with fail
      refine c1.mono ?_
      rintro e w1 ⟨rfl, hb1⟩
      obtain ⟨k0, k1⟩ := HK.out _ hb1
      go_wp2_with fail
      refine (c2 w1 hb1).mono ?_
      rintro e w2 ⟨rfl, hb2⟩
      have d2 := hb1.trans (hb2.mono hb1.size)
      go_wp2
      go_ret
      exact ⟨rfl, HB.out _ d2⟩
    | false =>
      simp only [hv] at c2
      rw [Bool.not_false, Bool.true_and]
      clear hv
      cases hq : memR r.data 0 idB with
      | none =>
        simp only [hq] at c3
        unfold idOk
        clear hq HC
        subst hW0
        go_enter Tryz.func29, Tryz.ntmps29
        go_wp2_with fail
        refine c1.mono ?_
        rintro e w1 ⟨rfl, hb1⟩
        obtain ⟨k0, k1⟩ := HK.out _ hb1
        go_wp2_with fail
        refine (c2 w1 hb1).mono ?_
        rintro e w2 ⟨rfl, hb2⟩
        have d2 := hb1.trans (hb2.mono hb1.size)
        obtain ⟨k0', k1'⟩ := HK.out _ d2
        go_wp2_with fail
        refine (c3 w2 d2).mono ?_
        rintro e w3 ⟨rfl, hb3⟩
        have d3 := d2.trans (hb3.mono d2.size)
        go_wp2
        first | go_quiet (fail) | fail
        go_wp2
        go_ret
        exact ⟨rfl, (HB.out _ d3).drewN' _⟩
      | some q =>
        simp only [hq] at c3
        obtain ⟨b, off, hA, hqI, hcc⟩ := HC.out q hq
        subst hA
        have HCC := Lib.hid hcc
        obtain ⟨kd, hkd⟩ : ∃ kd, kindAt r.data q = kd := ⟨_, rfl⟩
        obtain ⟨tx, htx⟩ : ∃ tx, textAt r.data q = tx := ⟨_, rfl⟩
        have hid' : idOk r (some q) = (((kd : Int) == 3) && (tx.toList == r.id.toList)) := by rw [idOk, hkd, htx, ba_beq]
        rw [hid']
        rw [hkd, htx] at HCC
        clear hq HC hcc hkd htx hid'
        obtain ⟨V, hV⟩ : ∃ V, (tx.toList == r.id.toList) = V := ⟨_, rfl⟩
        rw [hV]
        cases h3 : ((kd : Int) == 3) with
        | false =>
          rw [Bool.false_and]
          subst hW0
          go_enter Tryz.func29, Tryz.ntmps29
          go_wp2_with fail
          refine c1.mono ?_
          rintro e w1 ⟨rfl, hb1⟩
          obtain ⟨k0, k1⟩ := HK.out _ hb1
          go_wp2_with fail
          refine (c2 w1 hb1).mono ?_
          rintro e w2 ⟨rfl, hb2⟩
          have d2 := hb1.trans (hb2.mono hb1.size)
          obtain ⟨k0', k1'⟩ := HK.out _ d2
          go_wp2_with fail
          refine (c3 w2 d2).mono ?_
          rintro e w3 ⟨rfl, hb3⟩
          have d3 := d2.trans (hb3.mono d2.size)
          obtain ⟨k0'', k1''⟩ := HK.out _ d3
          obtain ⟨g0, g2⟩ := HCC.out _ d3
          go_wp2
          first | go_quiet (fail) | fail
          go_wp2
          go_ret
          exact ⟨rfl, (HB.out _ d3).drewN' _⟩
        | true =>
          rw [Bool.true_and]
          subst hW0
          go_enter Tryz.func29, Tryz.ntmps29
          go_wp2_with fail
          refine c1.mono ?_
          rintro e w1 ⟨rfl, hb1⟩
          obtain ⟨k0, k1⟩ := HK.out _ hb1
          go_wp2_with fail
          refine (c2 w1 hb1).mono ?_
          rintro e w2 ⟨rfl, hb2⟩
          have d2 := hb1.trans (hb2.mono hb1.size)
          obtain ⟨k0', k1'⟩ := HK.out _ d2
          go_wp2_with fail
          refine (c3 w2 d2).mono ?_
          rintro e w3 ⟨rfl, hb3⟩
          have d3 := d2.trans (hb3.mono d2.size)
          obtain ⟨k0'', k1''⟩ := HK.out _ d3
          obtain ⟨g0, g2⟩ := HCC.out _ d3
          go_wp2
          first | go_quiet (fail) | fail
          go_wp2
          go_ret
          exact ⟨rfl, (HB.out _ d3).drewN' _⟩
end
section
def ren (n : ByteArray) : List Cel → List Cel
  | [] => []
  | c :: r => { c with name := n } :: r
def bodyF (nm : Nat → ByteArray) : Nat → List (List Cel) → List Cel
  | _, [] => []
  | i, x :: r => ren (nm i) x ++ bodyF nm (i + 1) r
def headC (K : Nat) (n : Nat) : Cel := ⟨K, e0, e0, 0, n⟩
def putL (K : Nat) (nm : Nat → ByteArray) (xss : List (List Cel)) : List Cel := headC K xss.length :: bodyF nm 0 xss
theorem ren_len (n : ByteArray) (xs : List Cel) : (ren n xs).length = xs.length := by cases xs <;> rfl
theorem bodyF_snoc (nm : Nat → ByteArray) (x : List Cel) : ∀ (xss : List (List Cel)) (i : Nat), bodyF nm i (xss ++ [x]) = bodyF nm i xss ++ ren (nm (i + xss.length)) x
  | [], i => by simp [bodyF]
  | y :: r, i => by
    rw [List.cons_append, bodyF, bodyF_snoc nm x r (i + 1), bodyF, List.append_assoc, List.length_cons, show i + 1 + r.length = i + (r.length + 1) by omega]
theorem bodyF_take (nm : Nat → ByteArray) (xss : List (List Cel)) (k : Nat) (h : k < xss.length) : bodyF nm 0 (xss.take (k + 1)) = bodyF nm 0 (xss.take k) ++ ren (nm k) xss[k] := by
  rw [List.take_succ_eq_append_getElem h, bodyF_snoc, List.length_take, Nat.zero_add, Nat.min_eq_left (Nat.le_of_lt h)]
theorem bodyF_len_le (nm : Nat → ByteArray) (M : Nat) : ∀ (xss : List (List Cel)) (i : Nat), (∀ x ∈ xss, x.length ≤ M) → (bodyF nm i xss).length ≤ xss.length * M
  | [], i, _ => by simp [bodyF]
  | x :: r, i, h => by
    rw [bodyF, List.length_append, ren_len, List.length_cons, Nat.succ_mul]
    have h1 := h x (by simp)
    have h2 := bodyF_len_le nm M r (i + 1) (fun y hy => h y (by simp [hy]))
    omega
/-- a place's answer is that of the place alone -/
def nameless (c : Cel) : Cel := { c with name := e0 }
theorem oneC_nameless (c : Cel) : oneC (nameless c) = oneC c := rfl
theorem loop_window (v s : List Cel) (i : Nat) {d : Nat} (ih : ∀ a e, bh v d (i + a) = some (i + e) → (s[a]?).map nameless = (v[i + a]?).map nameless → (∀ j, a < j → j < e → s[j]? = v[i + j]?) → bh s d a = some e) (K : Nat) :
    ∀ m a ns e, i + a ≤ v.length → loop (bh v d) v K m (i + a) ns = some (i + e) → (∀ j, a ≤ j → j < e → s[j]? = v[i + j]?) → loop (bh s d) s K m a ns = some e
  | 0, a, ns, e, _, h, _ => by
    simp only [loop, Option.some.injEq] at h ⊢
    omega
  | m + 1, a, ns, e, ha, h, hs => by
    have hg := loop_gt (bh_gt v d) K (m + 1) (i + a) ns (i + e) ha h
    have hsa := hs a (Nat.le_refl _) (by omega)
    unfold loop at h ⊢
    rw [hsa]
    cases hv : v[i + a]? with
    | none => rw [hv] at h; cases h
    | some c =>
      rw [hv] at h
      simp only at h ⊢
      split at h
      · rename_i hk
        rw [if_pos hk]
        cases hf : bh v d (i + a) with
        | none => rw [hf] at h; cases h
        | some nx =>
          rw [hf] at h
          simp only at h
          have g := bh_gt v d _ _ hf
          obtain ⟨x, rfl⟩ : ∃ x, nx = i + x := ⟨nx - i, by omega⟩
          have g2 := loop_gt (bh_gt v d) K m (i + x) _ (i + e) g.2 h
          rw [ih a x hf (by rw [hsa]) (fun j h1 h2 => hs j (by omega) (by omega))]
          exact loop_window v s i ih K m x _ e g.2 h (fun j h1 h2 => hs j (by omega) (by omega))
      · cases h
theorem map_nameless {x y : Option Cel} (h : x.map nameless = y.map nameless) {c : Cel} (hy : y = some c) : ∃ d, x = some d ∧ d.kind = c.kind ∧ d.many = c.many ∧ oneC d = oneC c := by
  subst hy
  cases x with
  | none => simp at h
  | some d =>
    simp only [Option.map_some, Option.some.injEq] at h
    refine ⟨d, rfl, ?_, ?_, ?_⟩
    · have := congrArg Cel.kind h; exact this
    · have := congrArg Cel.many h; exact this
    · rw [← oneC_nameless d, ← oneC_nameless c, h]
theorem bh_window (v s : List Cel) (i : Nat) : ∀ d a e, bh v d (i + a) = some (i + e) → (s[a]?).map nameless = (v[i + a]?).map nameless → (∀ j, a < j → j < e → s[j]? = v[i + j]?) → bh s d a = some e
  | 0, a, e, h, h0, _ => by
    unfold bh at h ⊢
    cases hv : v[i + a]? with
    | none => rw [hv] at h; cases h
    | some c =>
      obtain ⟨d, hd, h1, h2, h3⟩ := map_nameless h0 hv
      rw [hv] at h
      rw [hd]
      simp only at h ⊢
      rw [h1, h3]
      split at h
      · rename_i hc
        rw [if_pos hc]
        simp only [Option.some.injEq] at h ⊢
        omega
      · cases h
  | d + 1, a, e, h, h0, hs => by
    rw [bh] at h ⊢
    cases hv : v[i + a]? with
    | none => rw [hv] at h; cases h
    | some c =>
      obtain ⟨y, hd, h1, h2, h3⟩ := map_nameless h0 hv
      have hl := (List.getElem?_eq_some_iff.1 hv).1
      rw [hv] at h
      rw [hd]
      simp only at h ⊢
      rw [h1, h2, h3]
      split at h
      · rename_i hc
        rw [if_pos hc]
        split at h
        · rename_i hk
          rw [if_pos hk]
          exact loop_window v s i (bh_window v s i d) c.kind _ (a + 1) _ _ (by omega) h (fun j h1 h2 => hs j (by omega) h2)
        · rename_i hk
          rw [if_neg hk]
          simp only [Option.some.injEq] at h ⊢
          omega
      · cases h
theorem subL_get {v : List Cel} {i n : Nat} (hn : endN v i = n) {j : Nat} (h0 : 0 < j) (hj : j < n - i) : (subL v i)[j]? = v[i + j]? := by
  unfold subL
  rw [hn]
  have h1 : ∀ l : List Cel, (bare l)[j]? = l[j]? := by
    intro l
    cases l with
    | nil => rfl
    | cons c r => cases j with
      | zero => omega
      | succ j => rfl
  rw [h1, List.getElem?_take, if_pos hj, List.getElem?_drop]
theorem subL_get0 {v : List Cel} {i n : Nat} (hn : endN v i = n) (h : i < n) {c : Cel} (hc : v[i]? = some c) : (subL v i)[0]? = some (nameless c) := by
  unfold subL
  rw [hn]
  have : ((v.drop i).take (n - i))[0]? = some c := by rw [List.getElem?_take, if_pos (by omega), List.getElem?_drop, Nat.add_zero, hc]
  cases hl : (v.drop i).take (n - i) with
  | nil => rw [hl] at this; cases this
  | cons d r =>
    rw [hl] at this
    simp only [List.getElem?_cons_zero, Option.some.injEq] at this
    subst this
    rfl
theorem subL_len {v : List Cel} {i n : Nat} (hn : endN v i = n) (h : n ≤ v.length) : (subL v i).length = n - i := by
  unfold subL
  rw [hn, bare_len, List.length_take, List.length_drop]
  omega
/-- a value's part is a value -/
theorem sub_may {v : List Cel} {i n : Nat} (hb : bh v 16 i = some n) (hl : v.length ≤ 2048) : mayC (subL v i) = true := by
  have hn : endN v i = n := by rw [endN, hb]; rfl
  have hg := bh_gt v 16 i n hb
  obtain ⟨c, hc⟩ : ∃ c, v[i]? = some c := ⟨v[i], List.getElem?_eq_getElem (by omega)⟩
  have h0 := subL_get0 hn hg.1 hc
  have hlen := subL_len hn hg.2
  unfold mayC
  rw [h0, hlen]
  simp only [Bool.and_eq_true, decide_eq_true_eq]
  refine ⟨⟨⟨by omega, by omega⟩, rfl⟩, ?_⟩
  refine bh_window v (subL v i) i 16 0 (n - i) (by rw [Nat.add_zero, show i + (n - i) = n by omega]; exact hb) (by rw [h0, Nat.add_zero, hc]; rfl) (fun j h1 h2 => subL_get hn h1 h2)
theorem sub_check {v : List Cel} {i n : Nat} (hb : bh v 16 i = some n) (hl : v.length ≤ 2048) : checkC (subL v i) = 0 := by
  rw [checkC, sub_may hb hl]
  rfl
theorem ren_bare (n : ByteArray) (l : List Cel) (h : ∀ c, l[0]? = some c → c.name = n) : ren n (bare l) = l := by
  cases l with
  | nil => rfl
  | cons c r =>
    have := h c rfl
    subst this
    rfl
theorem take_parts (v : List Cel) {q n e : Nat} (h1 : q ≤ n) (h2 : n ≤ e) : (v.drop q).take (n - q) ++ (v.drop n).take (e - n) = (v.drop q).take (e - q) := by
  have : e - q = (n - q) + (e - n) := by omega
  rw [this, List.take_add, List.drop_drop, show q + (n - q) = n by omega]
theorem body_parts {v : List Cel} (nm : Nat → ByteArray) : ∀ (m q i : Nat), (∀ j, j < m → ∃ n, bh v 16 (iterE v j q) = some n ∧ nm (i + j) = nameAt v (iterE v j q)) →
    bodyF nm i ((kidsN v m q).map (subL v)) = (v.drop q).take (iterE v m q - q) ∧ q ≤ iterE v m q
  | 0, q, i, _ => by simp [kidsN, bodyF, iterE]
  | m + 1, q, i, h => by
    obtain ⟨n, hb, hnm⟩ := h 0 (by omega)
    simp only [iterE, Nat.add_zero] at hb hnm
    have hn : endN v q = n := by rw [endN, hb]; rfl
    have hg := bh_gt v 16 q n hb
    obtain ⟨ih1, ih2⟩ := body_parts nm m n (i + 1) (fun j hj => by
      obtain ⟨n', a1, a2⟩ := h (j + 1) (by omega)
      rw [iterE, hn] at a1 a2
      exact ⟨n', a1, by rw [← a2]; congr 1; omega⟩)
    rw [kidsN, hn, List.map_cons, bodyF, ih1, iterE, hn]
    refine ⟨?_, by omega⟩
    have hsub : ren (nm i) (subL v q) = (v.drop q).take (n - q) := by
      unfold subL
      rw [hn]
      refine ren_bare _ _ fun c hc => ?_
      rw [List.getElem?_take, if_pos (by omega), List.getElem?_drop, Nat.add_zero] at hc
      rw [hnm, nameAt, hc]
    rw [hsub]
    exact take_parts v (by omega) ih2
theorem oneC_nest {c : Cel} (h : oneC c = true) (hk : c.kind = 6 ∨ c.kind = 7) : c.text = e0 ∧ c.num = 0 ∧ 0 ≤ c.many := by
  unfold oneC at h
  rw [if_neg (by omega), if_neg (by omega), if_neg (by omega), if_neg (by omega), if_neg (by omega), if_pos hk] at h
  simp only [Bool.and_eq_true, decide_eq_true_eq] at h
  exact ⟨h.1.1, h.1.2, h.2⟩
/-- THE LAW: a value's subs, put together, are the value -/
theorem parts_put {v : List Cel} {i n : Nat} (hb : bh v 16 i = some n) {c : Cel} (hc : v[i]? = some c) (hk : c.kind = 6 ∨ c.kind = 7) (nm : Nat → ByteArray)
    (hall : ∀ j, j < c.many.toNat → ∃ e, bh v 16 (iterE v j (i + 1)) = some e ∧ nm j = nameAt v (iterE v j (i + 1))) :
    putL c.kind nm ((kidL v i).map (subL v)) = subL v i := by
  have hn : endN v i = n := by rw [endN, hb]; rfl
  have hg := bh_gt v 16 i n hb
  have hkf := kids_facts hc hb
  have ho : oneC c = true := by
    cases h : oneC c with
    | true => rfl
    | false => rw [bh_bad hc h] at hb; cases hb
  obtain ⟨o1, o2, o3⟩ := oneC_nest ho hk
  have hkl : kidL v i = kidsN v c.many.toNat (i + 1) := by rw [kidL, hc]
  have hbp := (body_parts nm c.many.toNat (i + 1) 0 (fun j hj => by rw [Nat.zero_add]; exact hall j hj)).1
  rw [hkf.1] at hbp
  have hil : i < v.length := (List.getElem?_eq_some_iff.1 hc).1
  have hvi : v[i] = c := by
    have := List.getElem?_eq_getElem hil
    rw [this] at hc
    exact Option.some.inj hc
  unfold putL
  rw [hkl, hbp, List.length_map, kidsN_len]
  unfold subL
  rw [hn, List.drop_eq_getElem_cons hil, hvi, show n - i = (n - (i + 1)) + 1 by omega, List.take_succ_cons]
  unfold bare headC
  cases c with
  | mk k nme t nu mn =>
    simp only at o1 o2 o3 ⊢
    subst o1
    subst o2
    rw [show ((mn.toNat : Nat) : Int) = mn by omega]
theorem loop_kids {v : List Cel} {d : Nat} (hd : d ≤ 16) (K : Nat) : ∀ m q ns e, loop (bh v d) v K m q ns = some e → ∀ j, j < m → ∃ n, bh v 16 (iterE v j q) = some n ∧ (K = 6 → nameAt v (iterE v j q) = e0)
  | 0, q, ns, e, _, j, hj => by omega
  | m + 1, q, ns, e, h, j, hj => by
    unfold loop at h
    cases hv : v[q]? with
    | none => rw [hv] at h; cases h
    | some c =>
      rw [hv] at h
      simp only at h
      split at h
      · rename_i hk
        cases hf : bh v d q with
        | none => rw [hf] at h; cases h
        | some nx =>
          rw [hf] at h
          simp only at h
          have hb := bh_mono v hd hf
          cases j with
          | zero =>
            refine ⟨nx, hb, fun hK => ?_⟩
            rw [iterE, nameAt, hv]
            rw [kidOk, if_pos hK] at hk
            simpa using hk
          | succ j =>
            rw [iterE, show endN v q = nx by rw [endN, hb]; rfl]
            exact loop_kids hd K m nx _ e h j (by omega)
      · cases h
theorem kids_names {v : List Cel} {i n : Nat} (hb : bh v 16 i = some n) {c : Cel} (hc : v[i]? = some c) (j : Nat) (hj : j < c.many.toNat) : ∃ e, bh v 16 (iterE v j (i + 1)) = some e ∧ (c.kind = 6 → nameAt v (iterE v j (i + 1)) = e0) := by
  have ho : oneC c = true := by
    cases h : oneC c with
    | true => rfl
    | false => rw [bh_bad hc h] at hb; cases hb
  by_cases hk : nest c
  · rw [bh_nest hc ho hk 15] at hb
    exact loop_kids (by omega) _ _ _ _ _ hb j hj
  · have hm := oneC_leaf ho hk
    rw [hm] at hj
    simp at hj
open Go.RowKit
/-- values, in blocks below B -/
def Sets (w : World) (B : Nat) (A : Option Addr) (xss : List (List Cel)) : Prop :=
  xss = [] ∨ ∃ b off, A = some ⟨b, off, none⟩ ∧ b < B ∧ ∀ (k : Nat) (h : k < xss.length), ∃ A' c, w.cell? ⟨b, off + k, none⟩ = some (.slice A' xss[k].length c) ∧ Rd w B A' (cv xss[k])
theorem Sets.at' {w : World} {B : Nat} {A : Option Addr} {xss : List (List Cel)} (h : Sets w B A xss) {k : Nat} (hk : k < xss.length) :
    ∃ b off A' c, A = some ⟨b, off, none⟩ ∧ b < B ∧ w.cell? ⟨b, off + k, none⟩ = some (.slice A' xss[k].length c) ∧ Rd w B A' (cv xss[k]) := by
  rcases h with rfl | ⟨b, off, e, hb, h⟩
  · simp at hk
  · obtain ⟨A', c, h1, h2⟩ := h k hk
    exact ⟨b, off, A', c, e, hb, h1, h2⟩
theorem Sets.thru {w w' : World} {B B' : Nat} {A : Option Addr} {xss : List (List Cel)} (h : Sets w B A xss) (hb : Below B' w w') (hB : B ≤ B') : Sets w' B A xss := by
  rcases h with rfl | ⟨b, off, e, hl, h⟩
  · exact .inl rfl
  · refine .inr ⟨b, off, e, hl, fun k hk => ?_⟩
    obtain ⟨A', c, h1, h2⟩ := h k hk
    exact ⟨A', c, (hb.cell (p := ⟨b, off + k, none⟩) (by show b < B'; omega)).trans h1, h2.thru hb hB⟩
theorem Sets.mono {w : World} {B B' : Nat} {A : Option Addr} {xss : List (List Cel)} (h : Sets w B A xss) (hB : B ≤ B') : Sets w B' A xss := by
  rcases h with rfl | ⟨b, off, e, hl, h⟩
  · exact .inl rfl
  · refine .inr ⟨b, off, e, by omega, fun k hk => ?_⟩
    obtain ⟨A', c, h1, h2⟩ := h k hk
    exact ⟨A', c, h1, h2.mono hB⟩
def putR (K : Nat) (nm : Nat → ByteArray) (xss : List (List Cel)) : List Cel := if 2048 < xss.length then [] else if xss.all mayC then putL K nm xss else []
def putE (K : Nat) (nm : Nat → ByteArray) (xss : List (List Cel)) : Int := if 2048 < xss.length then 4 else if xss.all mayC then checkC (putL K nm xss) else 8
def PutPost (w : World) (R : List Cel) (V : Int) (e : Ending) (w' : World) : Prop := ∃ v, e = .returned (.tuple #[v, .int .i64 V]) ∧ w'.ownsRow w.heap.size 47 5 v R.length (cv R) ∧ Below w.heap.size w w'
theorem all_of {xss : List (List Cel)} (h : ∀ j (hj : j < xss.length), mayC xss[j] = true) : xss.all mayC = true := by
  rw [List.all_eq_true]
  intro x hx
  obtain ⟨j, hj, rfl⟩ := List.getElem_of_mem hx
  exact h j hj
theorem not_all {xss : List (List Cel)} {k : Nat} (hk : k < xss.length) (h : mayC xss[k] = false) : xss.all mayC = false := by
  rw [Bool.eq_false_iff]
  intro g
  rw [List.all_eq_true] at g
  have := g xss[k] (List.getElem_mem hk)
  rw [h] at this
  cases this
theorem mayC_pos {xs : List Cel} (h : mayC xs = true) : 0 < xs.length := by
  unfold mayC at h
  simp only [Bool.and_eq_true, decide_eq_true_eq] at h
  exact h.1.1.1
theorem cv_ren (s : ByteArray) (xs : List Cel) (h : 0 < xs.length) : cv (ren s xs) = (cv xs).set 1 (.string s) := by
  cases xs with
  | nil => simp at h
  | cons c r => simp [ren, cv]
theorem put_step {out x : List Cel} {L : Nat} (hL : L = out.length) (hx : 0 < x.length) (s : ByteArray) : (cv out ++ cv x).set (L * 5 + 1) (.string s) = cv (out ++ ren s x) := by
  have h1 : (cv out).length = L * 5 := by rw [cv_len, hL]
  rw [cv_app, cv_ren s x hx, List.set_append_right _ _ (by omega), h1, show L * 5 + 1 - L * 5 = 1 by omega]
theorem ren_wf {M : Nat} {n : ByteArray} {x : List Cel} (h : ∀ c ∈ x, CelW M c) (hn : n.size ≤ M) : ∀ c ∈ ren n x, CelW M c := by
  cases x with
  | nil => intro c hc; simp [ren] at hc
  | cons d r =>
    intro c hc
    simp only [ren, List.mem_cons] at hc
    rcases hc with rfl | hc
    · have := h d (by simp)
      exact ⟨this.kind, hn, this.text, this.num0, this.num1, this.many0, this.many1⟩
    · exact h c (by simp [hc])
theorem bodyF_wf {M : Nat} {nm : Nat → ByteArray} (hn : ∀ i, (nm i).size ≤ M) : ∀ (xss : List (List Cel)) (i : Nat), (∀ l ∈ xss, ∀ c ∈ l, CelW M c) → ∀ c ∈ bodyF nm i xss, CelW M c
  | [], i, _, c, hc => by simp [bodyF] at hc
  | x :: r, i, h, c, hc => by
    rw [bodyF, List.mem_append] at hc
    rcases hc with hc | hc
    · exact ren_wf (h x (by simp)) (hn i) c hc
    · exact bodyF_wf hn r (i + 1) (fun l hl => h l (by simp [hl])) c hc
theorem putL_wf {nm : Nat → ByteArray} {K : Nat} {xss : List (List Cel)} (h : ∀ l ∈ xss, ∀ c ∈ l, CelW maxLen c) (hK : K ≤ 255) (hn : ∀ i, (nm i).size ≤ maxLen) (hl : xss.length ≤ 2048) : ∀ c ∈ putL K nm xss, CelW maxLen c := by
  intro c hc
  rw [putL, List.mem_cons] at hc
  rcases hc with rfl | hc
  · exact ⟨hK, by simp [headC, e0, ByteArray.size], by simp [headC, e0, ByteArray.size], by simp [headC], by simp [headC], by (simp [headC]; try omega), by (simp [headC]; try omega)⟩
  · exact bodyF_wf hn xss 0 h c hc
theorem rd_ofK2 {w : World} {base n c sz : Nat} {e : TypeId} {A : Option Addr} {xs : List Value} (h : w.ownsRow base e sz (.slice A n c) n xs) : Rd w w.heap.size A xs := by
  obtain ⟨h1, h2⟩ := h
  rcases h2 with ⟨h3, rfl⟩ | ⟨g, cap, cur, h3, hg, hh, hn, hc, hs, ht⟩
  · left
    exact List.eq_nil_of_length_eq_zero (by omega)
  · simp only [Value.slice.injEq] at h3
    obtain ⟨rfl, _, rfl⟩ := h3
    right
    refine ⟨g, 0, rfl, (Array.getElem?_eq_some_iff.1 hh).1, fun j hj => ?_⟩
    rw [Nat.zero_add, cell_of_row w g j _ _ (0, 0) hh, ← Array.getElem?_toList]
    have : xs[j]? = (cur.toList.take (n * sz))[j]? := by rw [ht]
    rw [List.getElem?_take, if_pos (by omega), List.getElem?_eq_getElem hj] at this
    exact this.symm
theorem own_new1 (w : World) (x : Cel) : (w.alloc (.cells (cv [x]).toArray 47)).ownsRow w.heap.size 47 5 (.slice (some ⟨w.heap.size, 0, none⟩) 1 1) 1 (cv [x]) :=
  ⟨rfl, .inr ⟨w.heap.size, 1, (cv [x]).toArray, rfl, Nat.le_refl _, by simp only [heap_alloc_new], Nat.le_refl _, by unfold maxLen; omega, rfl, by simp [cv]⟩⟩
open Go.RowKit
theorem enter_of {P : Program} {f : FuncId} {fn : Func} {c : Code} (hf : P.funcs[f]? = some fn) (hname : (fn.name == "runtime.NumGoroutine") = false) (hb : fn.body = some c) (args : Array Value) (w : World) : (callFunc f args).run P w = .ok (.enter f args) w := by
  have h1 : fn.name ≠ "runtime.NumGoroutine" := by simpa using hname
  simp [callFunc, hf, h1, hb]
def nmE : Nat → ByteArray := fun _ => e0
def nmL (ns : List ByteArray) (i : Nat) : ByteArray := ns.getD i e0
def itemsR (K : Nat) (nm : Nat → ByteArray) (xss : List (List Cel)) : List Cel := if putE K nm xss = 0 then putR K nm xss else []
open Go.RowKit
def qk (xs : List Cel) (i j : Nat) : Nat := iterE xs j (i + 1)
def subsL (xs : List Cel) (i : Nat) : List (List Cel) := (kidL xs i).map (subL xs)
def namesL (xs : List Cel) (i : Nat) : List ByteArray := (kidL xs i).map (nameAt xs)
theorem askedC_at {xs : List Cel} (hm : mayC xs = true) {i : Nat} (hil : i < xs.length) : askedC xs (i : Int) = 0 := by
  rw [askedC, if_pos hm, if_pos (by omega)]
theorem kid_get {xs : List Cel} {i j : Nat} (h : j < (kidL xs i).length) : (kidL xs i)[j] = qk xs i j := by
  cases hc : xs[i]? with
  | none =>
    rw [kidL, hc] at h
    simp at h
  | some c =>
    have e : kidL xs i = kidsN xs c.many.toNat (i + 1) := by rw [kidL, hc]
    rw [List.getElem_of_eq e h, kidsN_get]
    rfl
theorem kid_len {xs : List Cel} {i : Nat} {c : Cel} (hc : xs[i]? = some c) : (kidL xs i).length = c.many.toNat := by
  rw [kidL, hc]
  exact kidsN_len _ _ _
theorem qk_zero (xs : List Cel) (i : Nat) : qk xs i 0 = i + 1 := rfl
theorem qk_end {xs : List Cel} (hm : mayC xs = true) {i : Nat} (hil : i < xs.length) : qk xs i (kidL xs i).length = endN xs i := by
  obtain ⟨c, hc⟩ : ∃ c, xs[i]? = some c := ⟨xs[i], List.getElem?_eq_getElem hil⟩
  rw [kid_len hc]
  exact (kids_facts hc (may_ends hm hil).1).1
theorem qk_facts {xs : List Cel} (hm : mayC xs = true) {i : Nat} (hil : i < xs.length) {j : Nat} (hj : j < (kidL xs i).length) :
    qk xs i j < xs.length ∧ bh xs 16 (qk xs i j) = some (qk xs i (j + 1)) ∧ endN xs (qk xs i j) = qk xs i (j + 1) ∧ qk xs i j < qk xs i (j + 1) ∧ qk xs i (j + 1) ≤ xs.length := by
  obtain ⟨c, hc⟩ : ∃ c, xs[i]? = some c := ⟨xs[i], List.getElem?_eq_getElem hil⟩
  rw [kid_len hc] at hj
  obtain ⟨e, hb, _⟩ := kids_names (may_ends hm hil).1 hc j hj
  have hg := bh_gt xs 16 _ e hb
  have he : qk xs i (j + 1) = e := by
    unfold qk
    rw [iterE_succ, endN, hb]
    rfl
  rw [he]
  refine ⟨Nat.lt_of_lt_of_le hg.1 hg.2, hb, ?_, hg.1, hg.2⟩
  unfold qk
  rw [endN, hb]
  rfl
theorem sub_may' {xs : List Cel} (hm : mayC xs = true) {i : Nat} (hil : i < xs.length) : mayC (subL xs i) = true := sub_may (may_ends hm hil).1 (mayC_len hm)
theorem subs_may {xs : List Cel} (hm : mayC xs = true) {i : Nat} (hil : i < xs.length) : (subsL xs i).all mayC = true := by
  refine all_of fun j hj => ?_
  unfold subsL at hj ⊢
  rw [List.length_map] at hj
  rw [List.getElem_map, kid_get hj]
  exact sub_may' hm (qk_facts hm hil hj).1
theorem subs_len (xs : List Cel) (i : Nat) : (subsL xs i).length = (kidL xs i).length := by rw [subsL, List.length_map]
theorem names_len (xs : List Cel) (i : Nat) : (namesL xs i).length = (kidL xs i).length := by rw [namesL, List.length_map]
theorem qk_ge {xs : List Cel} (hm : mayC xs = true) {i : Nat} (hil : i < xs.length) : ∀ j, j ≤ (kidL xs i).length → i + 1 + j ≤ qk xs i j
  | 0, _ => Nat.le_refl _
  | j + 1, hj => by
    have h1 := qk_ge hm hil j (by omega)
    have h2 := (qk_facts hm hil (j := j) (by omega)).2.2.2.1
    omega
theorem kids_len {xs : List Cel} (hm : mayC xs = true) {i : Nat} (hil : i < xs.length) : (kidL xs i).length ≤ xs.length := by
  have h1 := qk_ge hm hil _ (Nat.le_refl _)
  rw [qk_end hm hil] at h1
  have := (may_ends hm hil).2.2
  omega
theorem put_sub {xs : List Cel} (hm : mayC xs = true) {i : Nat} (hil : i < xs.length) (K : Nat) (nm : Nat → ByteArray) (hp : putL K nm (subsL xs i) = subL xs i) : putE K nm (subsL xs i) = 0 ∧ itemsR K nm (subsL xs i) = subL xs i := by
  have hl := Nat.le_trans (kids_len hm hil) (mayC_len hm)
  have h1 : ¬ 2048 < (subsL xs i).length := by rw [subs_len]; omega
  have hE : putE K nm (subsL xs i) = 0 := by
    rw [putE, if_neg h1, subs_may hm hil, if_pos rfl, hp, checkC, sub_may' hm hil]
    rfl
  refine ⟨hE, ?_⟩
  rw [itemsR, hE, if_pos rfl, putR, if_neg h1, subs_may hm hil, if_pos rfl, hp]
theorem items_sub {xs : List Cel} (hm : mayC xs = true) {i : Nat} (hil : i < xs.length) (hk : kindAt xs i = 6) : putE 6 nmE (subsL xs i) = 0 ∧ itemsR 6 nmE (subsL xs i) = subL xs i := by
  obtain ⟨c, hc⟩ : ∃ c, xs[i]? = some c := ⟨xs[i], List.getElem?_eq_getElem hil⟩
  have h6 : c.kind = 6 := by rw [← hk, kindAt, hc]
  refine put_sub hm hil 6 nmE ?_
  rw [← h6]
  refine parts_put (may_ends hm hil).1 hc (.inl h6) nmE fun j hj => ?_
  obtain ⟨e, h1, h2⟩ := kids_names (may_ends hm hil).1 hc j hj
  exact ⟨e, h1, (h2 h6).symm⟩
theorem members_sub {xs : List Cel} (hm : mayC xs = true) {i : Nat} (hil : i < xs.length) (hk : kindAt xs i = 7) : putE 7 (nmL (namesL xs i)) (subsL xs i) = 0 ∧ itemsR 7 (nmL (namesL xs i)) (subsL xs i) = subL xs i := by
  obtain ⟨c, hc⟩ : ∃ c, xs[i]? = some c := ⟨xs[i], List.getElem?_eq_getElem hil⟩
  have h7 : c.kind = 7 := by rw [← hk, kindAt, hc]
  refine put_sub hm hil 7 _ ?_
  rw [← h7]
  refine parts_put (may_ends hm hil).1 hc (.inr h7) _ fun j hj => ?_
  obtain ⟨e, h1, _⟩ := kids_names (may_ends hm hil).1 hc j hj
  refine ⟨e, h1, ?_⟩
  have hj' : j < (kidL xs i).length := by rw [kid_len hc]; exact hj
  rw [nmL, namesL, List.getD_eq_getElem?_getD, List.getElem?_map, List.getElem?_eq_getElem hj', Option.map_some, Option.getD_some, kid_get hj']
  rfl
theorem leaf_sub {xs : List Cel} (hm : mayC xs = true) {i : Nat} (hil : i < xs.length) (h6 : kindAt xs i ≠ 6) (h7 : kindAt xs i ≠ 7) : (kidL xs i).length = 0 ∧ (subL xs i).length = 1 := by
  obtain ⟨c, hc⟩ : ∃ c, xs[i]? = some c := ⟨xs[i], List.getElem?_eq_getElem hil⟩
  have hb := (may_ends hm hil).1
  have ho : oneC c = true := by
    cases h : oneC c with
    | true => rfl
    | false => rw [bh_bad hc h] at hb; cases hb
  have hkk : kindAt xs i = c.kind := by rw [kindAt, hc]
  have hk : ¬ nest c := by
    rintro (h | h)
    · exact h6 (by rw [hkk, h])
    · exact h7 (by rw [hkk, h])
  have hm0 := oneC_leaf ho hk
  refine ⟨by rw [kid_len hc, hm0]; rfl, ?_⟩
  have hn : endN xs i = i + 1 := by rw [endN, bh_leaf hc ho hk]; rfl
  rw [subL_len hn (by omega)]
  omega
theorem sameC_self (xs : List Cel) : sameC xs xs = true := (sameC_iff _ _).2 rfl
end
section
open Go.RowKit
theorem info_seg : (Tryz.prog.info? 26).map (fun i => (i.zero, i.size, i.bytes)) = some (some (.slice none 0 0), 1, 24) := by kernel_rfl
theorem info_strg : (Tryz.prog.info? 9).map (fun i => (i.zero, i.size, i.bytes)) = some (some (.string ⟨#[]⟩), 1, 16) := by kernel_rfl
/-- a row of another element type stays, whatever is appended to a row -/
theorem own_other {w w' : World} {b b' n n' sz sz' : Nat} {e e' : TypeId} {v v' : Value} {xs xs' : List Value} (h : w.ownsRow b e sz v n xs) (h' : w.ownsRow b' e' sz' v' n' xs') (he : e ≠ e') (hg : w.grownBy w' v'.ownBlock) : w'.ownsRow b e sz v n xs := by
  refine ⟨h.1, ?_⟩
  rcases h.2 with h3 | ⟨g, cap, cur, rfl, hg', hh, r⟩
  · exact .inl h3
  · refine .inr ⟨g, cap, cur, rfl, hg', (hg.block g (Array.getElem?_eq_some_iff.1 hh).1 ?_).trans hh, r⟩
    intro hb
    rcases h'.2 with ⟨rfl, _⟩ | ⟨g2, cap2, cur2, rfl, _, hh2, _⟩
    · simp [Value.ownBlock] at hb
    · simp [Value.ownBlock] at hb
      subst hb
      rw [hh] at hh2
      simp at hh2
      exact he hh2.2
def Twins (w : World) (base : Nat) (vs : List Value) (xss : List (List Cel)) : Prop := ∀ (j : Nat) (h : j < vs.length) (h' : j < xss.length), w.ownsRow base 47 5 vs[j] xss[j].length (cv xss[j])
theorem Twins.sets {w : World} {base c : Nat} {A : Option Addr} {vs : List Value} {xss : List (List Cel)} (hv : vs.length = xss.length) (h : Twins w base vs xss) (hown : w.ownsRow base 26 1 (.slice A xss.length c) xss.length vs) : Sets w w.heap.size A xss := by
  rcases Rd.of_own hown with h0 | ⟨b, off, rfl, hb, hc⟩
  · left
    rw [h0] at hv
    exact List.eq_nil_of_length_eq_zero hv.symm
  · refine .inr ⟨b, off, rfl, hb, fun k hk => ?_⟩
    have ho := h k (by omega) hk
    obtain ⟨A', c', e, _, _⟩ : ∃ A' c', vs[k] = .slice A' xss[k].length c' ∧ xss[k].length ≤ c' ∧ True := by
      rcases ho.2 with ⟨h3, h4⟩ | ⟨g, cap, cur, h3, _, _, hn, _⟩
      · exact ⟨none, 0, by rw [h3, h4], by omega, trivial⟩
      · exact ⟨_, cap, h3, hn, trivial⟩
    rw [e] at ho
    exact ⟨A', c', by rw [hc k (by omega), e], rd_ofK2 ho⟩
theorem Twins.step {w w' : World} {base n sz : Nat} {e : TypeId} {v : Value} {vs us : List Value} {xss : List (List Cel)} (h : Twins w base vs xss) (hown : w.ownsRow base e sz v n us) (he : 47 ≠ e) (hg : w.grownBy w' v.ownBlock) : Twins w' base vs xss :=
  fun j hj hj' => own_other (h j hj hj') hown he hg
theorem Twins.below {w w' : World} {base : Nat} {vs : List Value} {xss : List (List Cel)} (h : Twins w base vs xss) (hb : Below w.heap.size w w') : Twins w' base vs xss :=
  fun j hj hj' => own_below (h j hj hj') hb (own_lt (h j hj hj'))
theorem Twins.add {w : World} {base : Nat} {vs : List Value} {v : Value} {xss : List (List Cel)} (h : Twins w base vs xss) {k : Nat} (hk : vs.length = k) (hl : k < xss.length) (ho : w.ownsRow base 47 5 v xss[k].length (cv xss[k])) : Twins w base (vs ++ [v]) xss := by
  subst hk
  intro j hj hj'
  by_cases hlt : j < vs.length
  · have e : (vs ++ [v])[j] = vs[j] := List.getElem_append_left hlt
    rw [e]
    exact h j hlt hj'
  · obtain rfl : j = vs.length := by simp at hj; omega
    simpa using ho
def valO (xs : List Cel) (nm : ByteArray) : Option (List Cel) := match memR xs 0 nm with
  | none => none
  | some q => if kindAt xs q = 0 then none else some (subL xs q)
def valL (xs : List Cel) (nm : ByteArray) : List Cel := (valO xs nm).getD []
def valsL (xs : List Cel) (us : List ByteArray) : List (List Cel) := us.map (valL xs)
theorem valsL_len (xs : List Cel) (us : List ByteArray) : (valsL xs us).length = us.length := by rw [valsL, List.length_map]
theorem valsL_get {xs : List Cel} {us : List ByteArray} {j : Nat} (h : j < (valsL xs us).length) (h' : j < us.length) : (valsL xs us)[j] = valL xs us[j] := by simp only [valsL, List.getElem_map]
/-- values in blocks below B; an empty one is nil -/
def SetsN (w : World) (B : Nat) (A : Option Addr) (xss : List (List Cel)) : Prop :=
  xss = [] ∨ ∃ b off, A = some ⟨b, off, none⟩ ∧ b < B ∧ ∀ (k : Nat) (h : k < xss.length), ∃ A' c, w.cell? ⟨b, off + k, none⟩ = some (.slice A' xss[k].length c) ∧ Rd w B A' (cv xss[k]) ∧ (xss[k] = [] → A' = none)
theorem SetsN.at' {w : World} {B : Nat} {A : Option Addr} {xss : List (List Cel)} (h : SetsN w B A xss) {k : Nat} (hk : k < xss.length) :
    ∃ b off A' c, A = some ⟨b, off, none⟩ ∧ b < B ∧ w.cell? ⟨b, off + k, none⟩ = some (.slice A' xss[k].length c) ∧ Rd w B A' (cv xss[k]) ∧ (xss[k] = [] → A' = none) := by
  rcases h with rfl | ⟨b, off, e, hb, h⟩
  · simp at hk
  · obtain ⟨A', c, h1, h2, h3⟩ := h k hk
    exact ⟨b, off, A', c, e, hb, h1, h2, h3⟩
theorem SetsN.thru {w w' : World} {B B' : Nat} {A : Option Addr} {xss : List (List Cel)} (h : SetsN w B A xss) (hb : Below B' w w') (hB : B ≤ B') : SetsN w' B A xss := by
  rcases h with rfl | ⟨b, off, e, hl, h⟩
  · exact .inl rfl
  · refine .inr ⟨b, off, e, hl, fun k hk => ?_⟩
    obtain ⟨A', c, h1, h2, h3⟩ := h k hk
    exact ⟨A', c, (hb.cell (p := ⟨b, off + k, none⟩) (by show b < B'; omega)).trans h1, h2.thru hb hB, h3⟩
def Nils (vs : List Value) (xss : List (List Cel)) : Prop := ∀ (j : Nat) (h : j < vs.length) (h' : j < xss.length), xss[j] = [] → vs[j] = .slice none 0 0
theorem Nils.add {vs : List Value} {v : Value} {xss : List (List Cel)} (h : Nils vs xss) {k : Nat} (hk : vs.length = k) (hl : k < xss.length) (hv : xss[k] = [] → v = .slice none 0 0) : Nils (vs ++ [v]) xss := by
  subst hk
  intro j hj hj'
  by_cases hlt : j < vs.length
  · have e : (vs ++ [v])[j] = vs[j] := List.getElem_append_left hlt
    rw [e]
    exact h j hlt hj'
  · obtain rfl : j = vs.length := by simp at hj; omega
    simpa using hv
theorem Twins.setsN {w : World} {base c : Nat} {A : Option Addr} {vs : List Value} {xss : List (List Cel)} (hv : vs.length = xss.length) (h : Twins w base vs xss) (hn : Nils vs xss) (hown : w.ownsRow base 26 1 (.slice A xss.length c) xss.length vs) : SetsN w w.heap.size A xss := by
  rcases Rd.of_own hown with h0 | ⟨b, off, rfl, hb, hc⟩
  · left
    rw [h0] at hv
    exact List.eq_nil_of_length_eq_zero hv.symm
  · refine .inr ⟨b, off, rfl, hb, fun k hk => ?_⟩
    have ho := h k (by omega) hk
    obtain ⟨A', c', e, _, _⟩ : ∃ A' c', vs[k] = .slice A' xss[k].length c' ∧ xss[k].length ≤ c' ∧ True := by
      rcases ho.2 with ⟨h3, h4⟩ | ⟨g, cap, cur, h3, _, _, hn, _⟩
      · exact ⟨none, 0, by rw [h3, h4], by omega, trivial⟩
      · exact ⟨_, cap, h3, hn, trivial⟩
    have h4 := hn k (by omega) hk
    rw [e] at ho h4
    refine ⟨A', c', by rw [hc k (by omega), e], rd_ofK2 ho, fun h5 => ?_⟩
    have := h4 h5
    simp only [Value.slice.injEq] at this
    exact this.1
theorem subL_ne {xs : List Cel} (hm : mayC xs = true) {q : Nat} (hq : q < xs.length) : subL xs q ≠ [] := by
  intro h
  obtain ⟨h1, h2, h3⟩ := may_ends hm hq
  have := subL_len (v := xs) (i := q) (n := endN xs q) rfl h3
  rw [h] at this
  simp at this
  omega
theorem valL_cases (xs : List Cel) (nm : ByteArray) : (memR xs 0 nm = none ∧ valL xs nm = []) ∨ (∃ q, memR xs 0 nm = some q ∧ kindAt xs q = 0 ∧ valL xs nm = []) ∨ (∃ q, memR xs 0 nm = some q ∧ kindAt xs q ≠ 0 ∧ valL xs nm = subL xs q) := by
  unfold valL valO
  cases hq : memR xs 0 nm with
  | none => exact .inl ⟨rfl, rfl⟩
  | some q =>
    by_cases hk : kindAt xs q = 0
    · exact .inr (.inl ⟨q, rfl, hk, by simp [hk]⟩)
    · exact .inr (.inr ⟨q, rfl, hk, by simp [hk]⟩)
theorem subR_at' {xs : List Cel} (hm : mayC xs = true) {q : Nat} (hq : q < xs.length) : subR xs (q : Int) = subL xs q := by
  rw [subR, askedC_at hm hq, if_pos rfl, Int.toNat_natCast]
def ValPost (xs : List Cel) (us : List ByteArray) (w : World) (e : Ending) (w' : World) : Prop := ∃ A c, e = .returned (.slice A us.length c) ∧ SetsN w' w'.heap.size A (valsL xs us) ∧ Below w.heap.size w w'
set_option maxRecDepth 100000 in
set_option maxHeartbeats 8000000 in
theorem values_any (r : RecC) (A : Option Addr) (c : Nat) (us : List ByteArray) (Au : Option Addr) (cu bk : Nat) (w : World) {B B2 : Nat} (h : In r.data A w B) (hcap : r.data.length ≤ c) (hcm : c ≤ maxLen)
    (hu : Rd w B2 Au (sv us)) (hB2 : B2 ≤ w.heap.size) (hul : us.length ≤ 1000) (hbk : bk < w.heap.size) (hc2 : w.cell? ⟨bk, 2, none⟩ = some (.slice Au us.length cu)) :
    Calls Tryz.prog 58 #[.pointer (some ⟨bk, 0, none⟩), .agg #[.string r.id, .slice A r.data.length c]] w fun e w' => ValPost r.data us w e w' := by
  obtain ⟨m, hm⟩ : ∃ m, us.length = m := ⟨_, rfl⟩
  obtain ⟨i1, hi1, hy0, hy1, hy2⟩ := info_parts info_seg
  have HI := Lib.hid (And.intro hi1 (And.intro hy0 (And.intro hy1 hy2)))
  obtain ⟨W0, hW0⟩ : ∃ W0, W0 = w.alloc (.cells #[.string r.id, .slice A r.data.length c] 28) := ⟨_, rfl⟩
  have hb0 : Below w.heap.size w W0 := by rw [hW0]; exact (Below.refl _ _).alloc (Nat.le_refl _) _
  have hs0 : w.heap.size < W0.heap.size := by rw [hW0]; simp
  have kk : ∀ W, Below W0.heap.size W0 W → W.cell? ⟨w.heap.size, 1, none⟩ = some (.slice A r.data.length c) := by
    rw [hW0]
    exact fun W q => box_keep q 1 (by simp)
  have bw : ∀ W, Below W0.heap.size W0 W → Below w.heap.size w W := fun W q => hb0.trans (q.mono hb0.size)
  have hname : ∀ j (hj : j < us.length), ∃ b off, Au = some ⟨b, off, none⟩ ∧ ∀ W, Below W0.heap.size W0 W → W.cell? ⟨b, off + j, none⟩ = some (.string us[j]) := fun j hj => by
    obtain ⟨b, off, e, hb, hc⟩ := hu.at' (k := j) (by rw [sv_len]; exact hj)
    refine ⟨b, off, e, fun W q => ?_⟩
    rw [(bw W q).cell (p := ⟨b, off + j, none⟩) (by show b < w.heap.size; omega), hc j (by rw [sv_len]; exact hj)]
    simp only [sv, List.getElem_map]
  have hmem := fun (nm : ByteArray) W (q : Below W0.heap.size W0 W) => member_any A c 0 nm W (h.below (bw W q))
  have hsub := fun (a : Int) W (q : Below W0.heap.size W0 W) => sub_any A c a W (h.below (bw W q)) hcap hcm
  have hkind : ∀ q, q < r.data.length → ∃ b off, A = some ⟨b, off, none⟩ ∧ ∀ W, Below W0.heap.size W0 W → W.cell? ⟨b, off + q * 5, none⟩ = some (.int .u8 (kindAt r.data q)) := by
    intro q hl
    obtain ⟨b, off, e, hbl, g0, _⟩ := h.rd.cel1 (List.getElem?_eq_getElem hl)
    refine ⟨b, off, e, fun W qq => ?_⟩
    rw [(bw W qq).cell (p := ⟨b, off + q * 5, none⟩) (by have := h.le; show b < w.heap.size; omega), g0, kindAt, List.getElem?_eq_getElem hl]
  have hbook : W0.cell? ⟨bk, 2, none⟩ = some (.slice Au us.length cu) := (hb0.cell (p := ⟨bk, 2, none⟩) hbk).trans hc2
  rw [hm] at hbook
  have H := Lib.hid (And.intro hname (And.intro hmem (And.intro hsub (And.intro hkind (And.intro kk (And.intro bw hm))))))
  have hs0' := hs0
  unfold ValPost
  rw [hm] at hul ⊢
  clear h hcap hu hname hmem hsub hkind kk bw hm hi1 hy0 hy1 hy2 hc2 hb0 hcm hB2 hbk hs0
  have HB := Lib.hid hbook
  subst hW0
  clear hbook
  have hbook := HB.out
  go_enter Tryz.func58, Tryz.ntmps58
  go_wp2
  go_loopw [4, 16] (fun vo vi wr => ∃ (j : Nat) (vs : List Value), j ≤ m ∧ vs.length = j ∧ vi = .int .i64 j ∧ wr.ownsRow (w.alloc (.cells #[.string r.id, .slice A r.data.length c] 28)).heap.size 26 1 vo j vs ∧ Twins wr (w.alloc (.cells #[.string r.id, .slice A r.data.length c] 28)).heap.size vs (valsL r.data us) ∧ Nils vs (valsL r.data us) ∧ Below (w.alloc (.cells #[.string r.id, .slice A r.data.length c] 28)).heap.size (w.alloc (.cells #[.string r.id, .slice A r.data.length c] 28)) wr) (fun _ vi _ => m - (intOf vi).toNat)
  case atStart => exact ⟨0, [], Nat.zero_le _, rfl, rfl, World.ownsRow_nil _ _ _ _, fun j h => absurd h (Nat.not_lt_zero _), fun j h => absurd h (Nat.not_lt_zero _), Below.refl _ _⟩
  case round =>
    obtain ⟨j, vs, hj, hvs, rfl, howl, htw, hnl, hbr⟩ := hrel
    obtain ⟨W0, hW0⟩ : ∃ W0, W0 = w.alloc (.cells #[.string r.id, .slice A r.data.length c] 28) := ⟨_, rfl⟩
    rw [← hW0] at howl htw hbr H
    have hbs := hbr.size
    obtain ⟨Al, cl, rfl, _, _⟩ := own_slice howl
    obtain ⟨hname, hmem, hsub, hkind, kk, bw, hm⟩ := H.out
    by_cases hlt : j < m
    · have hju : j < us.length := by omega
      obtain ⟨bn, on, hAu, hnc⟩ := hname j hju
      subst hAu
      have hn0 := hnc wr hbr
      obtain ⟨nm, hnm⟩ : ∃ nm, us[j] = nm := ⟨_, rfl⟩
      rw [hnm] at hn0
      have c1 := hmem nm wr hbr
      have k1 := kk wr hbr
      have hvl : ∀ h : j < (valsL r.data us).length, (valsL r.data us)[j] = valL r.data nm := fun h => by rw [valsL_get h hju, hnm]
      have hvlen : (valsL r.data us).length = m := by rw [valsL_len, hm]
      have HV := Lib.hid (And.intro hvl (And.intro hvlen (And.intro hvs hnl)))
      have HL := Lib.hid howl
      have HT := Lib.hid htw
      have hjI : (j : Int) < m := by omega
      have HW := Lib.hid hW0
      clear hname hmem hnc hnm hvl hvlen hvs hnl howl htw hm hW0 hju
      have hx := valL_cases r.data nm
      rcases hx with ⟨hq, hx⟩ | ⟨q, hq, hk0, hx⟩ | ⟨q, hq, hk0, hx⟩
      · simp only [hq] at c1
        have HX := Lib.hid hx
        clear hx hq hsub hkind
        go_wp2_with fail
        refine c1.mono ?_
        rintro e w1 ⟨rfl, hb1⟩
        clear c1
        have HX1 : Hid ((w1.alloc (.cells #[Value.slice none 0 0] 26)).ownsRow W0.heap.size 47 5 (.slice none 0 0) ([] : List Cel).length (cv [])) := Lib.hid (World.ownsRow_nil _ _ _ _)
        have hb01 := hbr.trans (hb1.mono hbs)
        have hbn := hb01.size
        have hl1 := (own_below HL.out hb1 (own_lt HL.out)).alloc (.cells #[Value.slice none 0 0] 26)
        have ht1 := HT.out.below hb1
        have HT1 : Hid (Twins (w1.alloc (.cells #[Value.slice none 0 0] 26)) W0.heap.size vs (valsL r.data us)) := Lib.hid fun j hj hj' => (ht1 j hj hj').alloc _
        have hone : ∀ u ∈ [Value.slice none 0 0], u.oneCell' = true := by
          intro u hu
          simp at hu
          subst hu
          rfl
        have d1 : Below W0.heap.size W0 (w1.alloc (.cells #[Value.slice none 0 0] 26)) := hb01.alloc hbn _
        have hszA : W0.heap.size ≤ (w1.alloc (.cells #[Value.slice none 0 0] 26)).heap.size := by simp; omega
        obtain ⟨hi1, hy0, hy1, hy2⟩ := HI.out
        clear ht1
        go_wp2_with (at_builtin; refine wpList_append_rd _ (by rfl) _ _ _ (by rfl) W0.heap.size 26 i1 (.slice none 0 0) 24 Tryz.underlying78 hi1 hy0 hy1 hy2 (by rfl) (.slice Al j cl) j vs (by rfl) hl1 (B := (w1.heap.size + 1)) (some ⟨w1.heap.size, 0, none⟩) 1 1 [Value.slice none 0 0] (by rfl) (rd_new w1 #[Value.slice none 0 0] 26 _ rfl) rfl hone (by unfold maxLen; omega) (by omega) hszA ?_; intro v2 u3 ho3 hg3 hr3)
        have d3 : Below W0.heap.size W0 u3 := d1.grown hg3 hszA hr3
        go_roundw
        case rel =>
          obtain ⟨hvl, hvlen, hvs, hnl⟩ := HV.out
          have hjl : j < (valsL r.data us).length := by omega
          rw [← HW.out]
          refine ⟨j + 1, vs ++ [Value.slice none 0 0], hlt, by simp [hvs], by go_num, ho3, ?_, hnl.add hvs hjl ?_, d3⟩
          · refine Twins.add (HT1.out.step hl1 (by decide) hg3) hvs hjl ?_
            rw [hvl hjl, HX.out]
            exact own_other HX1.out hl1 (by decide) hg3
          · rw [hvl hjl, HX.out]
            exact fun _ => rfl
        case measure => simp [intOf]; omega
      · simp only [hq] at c1
        obtain ⟨bA, oA, hA, hkc⟩ := hkind q (memR_lt hq).2.2.2.2
        subst hA
        have hqI : (q : Int) < r.data.length := by have := (memR_lt hq).2.2.2.2; omega
        rw [hk0] at hkc
        have HKC := Lib.hid hkc
        have HX := Lib.hid hx
        have HKK := Lib.hid kk
        clear hx hq hsub hkind hkc hk0 kk
        go_wp2_with fail
        refine c1.mono ?_
        rintro e w1 ⟨rfl, hb1⟩
        clear c1
        have hkc := HKC.out w1 (hbr.trans (hb1.mono hbs))
        have kk1 := HKK.out w1 (hbr.trans (hb1.mono hbs))
        have HX1 : Hid ((w1.alloc (.cells #[Value.slice none 0 0] 26)).ownsRow W0.heap.size 47 5 (.slice none 0 0) ([] : List Cel).length (cv [])) := Lib.hid (World.ownsRow_nil _ _ _ _)
        have hb01 := hbr.trans (hb1.mono hbs)
        have hbn := hb01.size
        have hl1 := (own_below HL.out hb1 (own_lt HL.out)).alloc (.cells #[Value.slice none 0 0] 26)
        have ht1 := HT.out.below hb1
        have HT1 : Hid (Twins (w1.alloc (.cells #[Value.slice none 0 0] 26)) W0.heap.size vs (valsL r.data us)) := Lib.hid fun j hj hj' => (ht1 j hj hj').alloc _
        have hone : ∀ u ∈ [Value.slice none 0 0], u.oneCell' = true := by
          intro u hu
          simp at hu
          subst hu
          rfl
        have d1 : Below W0.heap.size W0 (w1.alloc (.cells #[Value.slice none 0 0] 26)) := hb01.alloc hbn _
        have hszA : W0.heap.size ≤ (w1.alloc (.cells #[Value.slice none 0 0] 26)).heap.size := by simp; omega
        obtain ⟨hi1, hy0, hy1, hy2⟩ := HI.out
        clear ht1
        go_wp2_with (at_builtin; refine wpList_append_rd _ (by rfl) _ _ _ (by rfl) W0.heap.size 26 i1 (.slice none 0 0) 24 Tryz.underlying78 hi1 hy0 hy1 hy2 (by rfl) (.slice Al j cl) j vs (by rfl) hl1 (B := (w1.heap.size + 1)) (some ⟨w1.heap.size, 0, none⟩) 1 1 [Value.slice none 0 0] (by rfl) (rd_new w1 #[Value.slice none 0 0] 26 _ rfl) rfl hone (by unfold maxLen; omega) (by omega) hszA ?_; intro v2 u3 ho3 hg3 hr3)
        have d3 : Below W0.heap.size W0 u3 := d1.grown hg3 hszA hr3
        go_roundw
        case rel =>
          obtain ⟨hvl, hvlen, hvs, hnl⟩ := HV.out
          have hjl : j < (valsL r.data us).length := by omega
          rw [← HW.out]
          refine ⟨j + 1, vs ++ [Value.slice none 0 0], hlt, by simp [hvs], by go_num, ho3, ?_, hnl.add hvs hjl ?_, d3⟩
          · refine Twins.add (HT1.out.step hl1 (by decide) hg3) hvs hjl ?_
            rw [hvl hjl, HX.out]
            exact own_other HX1.out hl1 (by decide) hg3
          · rw [hvl hjl, HX.out]
            exact fun _ => rfl
        case measure => simp [intOf]; omega
      · simp only [hq] at c1
        obtain ⟨hmay, _, _, _, hql⟩ := memR_lt hq
        obtain ⟨bA, oA, hA, hkc⟩ := hkind q hql
        subst hA
        have hqI : (q : Int) < r.data.length := by omega
        have c2 := hsub (q : Int)
        rw [subR_at' hmay hql, askedC_at hmay hql] at c2
        obtain ⟨kd, hkd⟩ : ∃ kd, kindAt r.data q = kd := ⟨_, rfl⟩
        rw [hkd] at hk0 hkc
        have hk0I : ((kd : Int) != 0) = true := bne_iff_ne.2 (by omega)
        obtain ⟨x, hxs⟩ : ∃ x, subL r.data q = x := ⟨_, rfl⟩
        have hxne : x ≠ [] := by rw [← hxs]; exact subL_ne hmay hql
        rw [hxs] at hx c2
        have HKC := Lib.hid hkc
        have HX := Lib.hid hx
        have HC2 := Lib.hid c2
        have HNE := Lib.hid hxne
        have HKK := Lib.hid kk
        clear hx hq hsub hkind hkc hk0 c2 hkd hxs hmay hql hxne kk
        go_wp2_with fail
        refine c1.mono ?_
        rintro e u1 ⟨rfl, hc1⟩
        clear c1
        have hc01 := hbr.trans (hc1.mono hbs)
        have hkc := HKC.out u1 hc01
        have kk1 := HKK.out u1 hc01
        go_wp2_with fail
        refine (HC2.out u1 hc01).mono ?_
        rintro e w1 ⟨v, rfl, hox, hc2⟩
        obtain ⟨A1, c1, rfl, _, _⟩ := own_slice hox
        have hb1 := hc1.trans (hc2.mono hc1.size)
        have HX1 := Lib.hid ((own_base hox hc01.size).alloc (.cells #[Value.slice A1 x.length c1] 26))
        clear hox hc2 hkc kk1
        have hb01 := hbr.trans (hb1.mono hbs)
        have hbn := hb01.size
        have hl1 := (own_below HL.out hb1 (own_lt HL.out)).alloc (.cells #[Value.slice A1 x.length c1] 26)
        have ht1 := HT.out.below hb1
        have HT1 : Hid (Twins (w1.alloc (.cells #[Value.slice A1 x.length c1] 26)) W0.heap.size vs (valsL r.data us)) := Lib.hid fun j hj hj' => (ht1 j hj hj').alloc _
        have hone : ∀ u ∈ [Value.slice A1 x.length c1], u.oneCell' = true := by
          intro u hu
          simp at hu
          subst hu
          rfl
        have d1 : Below W0.heap.size W0 (w1.alloc (.cells #[Value.slice A1 x.length c1] 26)) := hb01.alloc hbn _
        have hszA : W0.heap.size ≤ (w1.alloc (.cells #[Value.slice A1 x.length c1] 26)).heap.size := by simp; omega
        obtain ⟨hi1, hy0, hy1, hy2⟩ := HI.out
        clear ht1
        go_wp2_with (at_builtin; refine wpList_append_rd _ (by rfl) _ _ _ (by rfl) W0.heap.size 26 i1 (.slice none 0 0) 24 Tryz.underlying78 hi1 hy0 hy1 hy2 (by rfl) (.slice Al j cl) j vs (by rfl) hl1 (B := (w1.heap.size + 1)) (some ⟨w1.heap.size, 0, none⟩) 1 1 [Value.slice A1 x.length c1] (by rfl) (rd_new w1 #[Value.slice A1 x.length c1] 26 _ rfl) rfl hone (by unfold maxLen; omega) (by omega) hszA ?_; intro v2 u3 ho3 hg3 hr3)
        have d3 : Below W0.heap.size W0 u3 := d1.grown hg3 hszA hr3
        go_roundw
        case rel =>
          obtain ⟨hvl, hvlen, hvs, hnl⟩ := HV.out
          have hjl : j < (valsL r.data us).length := by omega
          rw [← HW.out]
          refine ⟨j + 1, vs ++ [Value.slice A1 x.length c1], hlt, by simp [hvs], by go_num, ho3, ?_, hnl.add hvs hjl ?_, d3⟩
          · refine Twins.add (HT1.out.step hl1 (by decide) hg3) hvs hjl ?_
            rw [hvl hjl, HX.out]
            exact own_other HX1.out hl1 (by decide) hg3
          · rw [hvl hjl, HX.out]
            exact fun h => absurd h HNE.out
        case measure => simp [intOf]; omega
    · have hjm : m = j := by omega
      subst hjm
      have hltd : decide ((m : Int) < m) = false := by simp
      have hF := bw wr hbr
      have hvlen : (valsL r.data us).length = m := by rw [valsL_len, hm]
      have hSN : SetsN wr wr.heap.size Al (valsL r.data us) := htw.setsN (by rw [hvs, hvlen]) hnl (by rw [hvlen]; exact howl)
      have HSN := Lib.hid hSN
      clear hname hmem hsub hkind kk bw hm hSN hvlen howl htw hnl hvs hW0
      go_wp2
      go_ret
      exact ⟨Al, cl, rfl, HSN.out, hF⟩
end
end Go.Proofs.YtcgioepbooafcaaGreatDoor
