/- What the laws of tables are handed; what a table that is not great is. Conditions: none. The reference's Of, Member, Cut, Sub. Conditions: texts of at most 2,000,000 bytes; at most 1,000,000 cells. The reference's End, Under, Kids. Conditions: texts of at most 2,000,000 bytes; at most 1,000,000 cells. -/
import Derived.Test.YtcgioepbooafcaaGreatDoorTAlive
import Derived.Test.YtcgioepbooafcaaGreatDoorMFnU
namespace Go.Proofs.YtcgioepbooafcaaGreatDoor
section
open Go.RowKit
structure InRec (w : World) (r : RecC) (A : Option Addr) (c : Nat) : Prop where
  rd : RecIn w w.heap.size r.data A c
  id : r.id.size ≤ maxLen
  wf : ∀ c ∈ r.data, CelW maxLen c
structure InT (w : World) (t : TabC) (Au Ar : Option Addr) : Prop where
  us : Rd w w.heap.size Au (sv t.us)
  rows : Recs w w.heap.size Ar t.rows
  ul : t.us.length ≤ maxLen
  rl : t.rows.length ≤ maxLen
  uz : ∀ s ∈ t.us, s.size ≤ maxLen
  wf : ∀ r ∈ t.rows, r.id.size ≤ maxLen ∧ ∀ c ∈ r.data, CelW maxLen c
theorem greatR_not {r : RecC} (h : greatR r = false) : r.id.size ≤ 300 ∧ r.data.length ≤ 60 := by
  unfold greatR at h
  simp only [Bool.or_eq_false_iff, decide_eq_false_iff_not] at h
  exact ⟨by omega, (greatC_not h.2).1⟩
theorem InRec.recW {w : World} {r : RecC} {A : Option Addr} {c : Nat} (h : InRec w r A c) (hg : greatR r = false) : RecW r :=
  ⟨h.id, by have := (greatR_not hg).2; omega, h.wf⟩
/-- a table's sizes, at most k rows -/
structure TabK (k : Nat) (t : TabC) : Prop where
  wf : ∀ r ∈ t.rows, RecW r
  ul : t.us.length ≤ 10
  rl : t.rows.length ≤ k
  uz : ∀ s ∈ t.us, s.size ≤ maxLen
theorem TabK.tabW {k : Nat} {t : TabC} (h : TabK k t) (hk : k ≤ 900) : TabW t := ⟨h.wf, by have := h.ul; omega, by have := h.rl; omega, h.uz⟩
theorem greatT_not {t : TabC} (h : greatT t = false) : t.rows.length ≤ 12 ∧ t.us.length ≤ 10 ∧ ∀ r ∈ t.rows, greatR r = false := by
  unfold greatT great2 at h
  simp only [Bool.or_eq_false_iff, decide_eq_false_iff_not] at h
  obtain ⟨h1, _, ⟨h2, h3⟩, _⟩ := h
  refine ⟨by omega, by omega, fun r hr => ?_⟩
  rw [List.take_of_length_le (by omega), List.any_eq_false] at h1
  simpa using h1 r hr
theorem InT.tabK {w : World} {t : TabC} {Au Ar : Option Addr} (h : InT w t Au Ar) (hg : greatT t = false) : TabK 12 t := by
  obtain ⟨h1, h2, h3⟩ := greatT_not hg
  exact ⟨fun r hr => ⟨(h.wf r hr).1, by have := (greatR_not (h3 r hr)).2; omega, (h.wf r hr).2⟩, h2, h1, h.uz⟩
theorem InT.tabIn {w : World} {t : TabC} {Au Ar : Option Addr} (h : InT w t Au Ar) (hT : Tabs w) {k : Nat} (hk : TabK k t) (hkk : k ≤ 900) : TabIn w w.heap.size t Au Ar :=
  ⟨h.us, h.rows, Nat.le_refl _, hT, hk.wf, by have := hk.ul; omega, by have := hk.rl; omega⟩
theorem zeroT_K (k : Nat) : TabK k zeroT := ⟨fun r hr => (by cases hr), Nat.zero_le _, Nat.zero_le _, fun s hs => (by cases hs)⟩
theorem putT_K {k : Nat} {t : TabC} {r : RecC} (h : TabK k t) (hr : RecW r) : TabK (k + 1) (putT t r).1 := by
  unfold putT
  repeat' split
  all_goals first
    | exact zeroT_K _
    | refine ⟨fun x hx => ?_, h.ul, ?_, h.uz⟩
  · have hx' : x ∈ t.rows.take (before (idsL t.rows) r.id) ++ r :: t.rows.drop (before (idsL t.rows) r.id) := hx
    rcases List.mem_append.1 hx' with hm | hm
    · exact h.wf x (List.mem_of_mem_take hm)
    · rcases List.mem_cons.1 hm with rfl | hm
      · exact hr
      · exact h.wf x (List.mem_of_mem_drop hm)
  · show (t.rows.take (before (idsL t.rows) r.id) ++ r :: t.rows.drop (before (idsL t.rows) r.id)).length ≤ k + 1
    have := h.rl
    rw [List.length_append, List.length_take, List.length_cons, List.length_drop]
    omega
theorem setT_K {k : Nat} {t : TabC} {r : RecC} (h : TabK k t) (hr : RecW r) : TabK k (setT t r).1 := by
  unfold setT
  repeat' split
  all_goals first
    | exact zeroT_K _
    | refine ⟨fun x hx => ?_, h.ul, ?_, h.uz⟩
  · have hx' : x ∈ t.rows.set (before (idsL t.rows) r.id) r := hx
    rcases List.mem_or_eq_of_mem_set hx' with hm | rfl
    · exact h.wf x hm
    · exact hr
  · show (t.rows.set (before (idsL t.rows) r.id) r).length ≤ k
    rw [List.length_set]
    exact h.rl
theorem dropT_K {k : Nat} {t : TabC} {id : ByteArray} (h : TabK k t) : TabK k (dropT t id).1 := by
  unfold dropT
  repeat' split
  all_goals first
    | exact zeroT_K _
    | refine ⟨fun x hx => ?_, h.ul, ?_, h.uz⟩
  · have hx' : x ∈ t.rows.take (before (idsL t.rows) id) ++ t.rows.drop (before (idsL t.rows) id + 1) := hx
    rcases List.mem_append.1 hx' with hm | hm
    · exact h.wf x (List.mem_of_mem_take hm)
    · exact h.wf x (List.mem_of_mem_drop hm)
  · show (t.rows.take (before (idsL t.rows) id) ++ t.rows.drop (before (idsL t.rows) id + 1)).length ≤ k
    have := h.rl
    rw [List.length_append, List.length_take, List.length_drop]
    omega
theorem zeroR_W : RecW zeroR := recW_small (by kernel_rfl)
theorem getT_W {k : Nat} {t : TabC} {id : ByteArray} (h : TabK k t) : RecW ((getT t id).getD zeroR) := by
  unfold getT
  repeat' split
  all_goals first
    | exact zeroR_W
    | skip
  cases e : t.rows[before (idsL t.rows) id]? with
  | none => exact zeroR_W
  | some x => exact h.wf x (List.mem_of_getElem? e)
/-- the errors of the law of order -/
theorem order_law (t : TabC) (a b : RecC) :
    (if (putT t a).2 = 0 ∧ (putT (putT t a).1 b).2 = 0 then (putT t b).2 = 0 ∧ (putT (putT t b).1 a).2 = 0 ∧ (putT (putT t b).1 a).1 = (putT (putT t a).1 b).1 else ¬ ((putT t b).2 = 0 ∧ (putT (putT t b).1 a).2 = 0)) := by
  have key : ∀ a b : RecC, (putT t a).2 = 0 → (putT (putT t a).1 b).2 = 0 → (putT t b).2 = 0 ∧ (putT (putT t b).1 a).2 = 0 ∧ (putT (putT t b).1 a).1 = (putT (putT t a).1 b).1 := by
    intro a b h1 h2
    rw [putT_eq] at h1 h2
    rw [putT_eq] at h2
    have e1 : Tb.put ordC t a = ((Tb.put ordC t a).1, 0) := by rw [← h1]
    have e2 : Tb.put ordC (Tb.put ordC t a).1 b = ((Tb.put ordC (Tb.put ordC t a).1 b).1, 0) := by rw [← h2]
    obtain ⟨z, e3, e4⟩ := Tb.order_ok e1 e2
    simp only [putT_eq]
    rw [e3, e4]
    exact ⟨rfl, rfl, rfl⟩
  split
  · rename_i h
    exact key a b h.1 h.2
  · rename_i h
    intro g
    have := key b a g.1 g.2
    exact h ⟨this.1, this.2.1⟩
end
section
open Go.RowKit
structure InR (xs : List Cel) (A : Option Addr) (w : World) (B : Nat) : Prop where
  rd : Rd w B A (cv xs)
  le : B ≤ w.heap.size
  len : xs.length ≤ 1000000
  wf : ∀ c ∈ xs, CelW 2000000 c
theorem InR.below {xs : List Cel} {A : Option Addr} {w w' : World} {B : Nat} (h : InR xs A w B) (hb : Below w.heap.size w w') : InR xs A w' B :=
  ⟨h.rd.thru hb h.le, Nat.le_trans h.le hb.size, h.len, h.wf⟩
theorem InR.behind {xs : List Cel} {A : Option Addr} {w : World} {B : Nat} (h : InR xs A w B) (cap a : Nat) (ha : a ≤ xs.length) :
    Calls Tryz.prog 78 #[.slice A xs.length cap, .int .i64 a, .int .i64 16] w fun e w' => e = .returned (.int .i64 (ans (bh xs 16 a))) ∧ Below w.heap.size w w' :=
  behind_ref A cap h.len h.wf 16 (by omega) a w h.rd h.le ha
theorem ans_end {xs : List Cel} {i : Nat} (h : mayC xs = true) (hi : i < xs.length) : ans (bh xs 16 i) = (endN xs i : Int) := by
  rw [(may_ends h hi).1]
  rfl
set_option maxRecDepth 100000 in
set_option maxHeartbeats 4000000 in
theorem under_ref {xs : List Cel} (A : Option Addr) (cap i : Nat) (w : World) {B : Nat} (h : InR xs A w B) (hm : mayC xs = true) (hil : i < xs.length) :
    Calls Tryz.prog 79 #[.slice A xs.length cap, .int .i64 i] w fun e w' => ∃ v, e = .returned v ∧ w'.ownsRow w.heap.size 3 1 v (kidL xs i).length (iv ((kidL xs i).map Int.ofNat)) ∧ Below w.heap.size w w' := by
  obtain ⟨i0, hi, hz0, hz1, hz2⟩ := info_parts info_int
  obtain ⟨c, hci⟩ : ∃ c, xs[i]? = some c := ⟨xs[i], List.getElem?_eq_getElem hil⟩
  obtain ⟨b, off, rfl, hb, c0, c1, c2, c3, c4⟩ := h.rd.cel1 hci
  have hlen := mayC_len hm
  have hbi := may_ends hm hil
  obtain ⟨f1, f2, f3⟩ := kids_facts hci hbi.1
  have hmany : 0 ≤ c.many := by
    have ho : oneC c = true := by
      cases g : oneC c with
      | true => rfl
      | false => have := hbi.1; rw [bh_bad hci g] at this; cases this
    by_cases hk : nest c
    · exact oneC_many ho hk
    · rw [oneC_leaf ho hk]
      exact Int.le_refl _
  obtain ⟨m, hmm⟩ : ∃ m : Nat, c.many = m := ⟨c.many.toNat, by omega⟩
  have hmt : c.many.toNat = m := by omega
  rw [kidL, hci]
  simp only
  rw [hmt] at f1 f3 ⊢
  have hbeh := fun w1 (hb : Below w.heap.size w w1) q (hq : q < xs.length) => ans_end hm hq ▸ (h.below hb).behind cap q (by omega)
  have HBEH := Lib.hid hbeh
  have hbw : b < w.heap.size := by have := h.le; omega
  have hlI : (i : Int) < xs.length := by omega
  obtain ⟨n, hn⟩ : ∃ n, endN xs i = n := ⟨_, rfl⟩
  rw [hn] at f1 f2 f3 hbi
  rw [hmm] at c4
  have hall : ∀ j, j ≤ m → j + i + 1 ≤ iterE xs j (i + 1) := by
    intro j
    induction j with
    | zero => intro _; show 0 + i + 1 ≤ i + 1; omega
    | succ j ih =>
      intro hj
      have h1 := ih (by omega)
      have h2 := f3 j (by omega)
      rw [iterE_succ]
      have := (may_ends hm (i := iterE xs j (i + 1)) (by omega)).2.1
      omega
  have hmI : m ≤ 2048 := by
    have := hall m (Nat.le_refl _)
    omega
  have F3 := Lib.hid f3
  have HALL := Lib.hid hall
  have F1 := Lib.hid f1
  have hn2 : n ≤ xs.length := hbi.2.2
  clear hbeh f1 f3 hall hbi hn hmany hmm hmt hm h hci
  go_enter Tryz.func79, Tryz.ntmps79
  go_wp2
  have hz := new5 w (w.alloc (.cells #[.int .u8 c.kind, .string c.name, .string c.text, .int .i64 c.num, .int .i64 m] 47)) _ _ _ _ _ _ (Below.refl _ _)
  have hB0 : Below w.heap.size w (w.alloc (.cells #[.int .u8 c.kind, .string c.name, .string c.text, .int .i64 c.num, .int .i64 m] 47)) := (Below.refl _ _).alloc (Nat.le_refl _) _
  have hZ0 : w.heap.size < (w.alloc (.cells #[.int .u8 c.kind, .string c.name, .string c.text, .int .i64 c.num, .int .i64 m] 47)).heap.size := by simp
  obtain ⟨W0, hW0⟩ : ∃ W0, (w.alloc (.cells #[.int .u8 c.kind, .string c.name, .string c.text, .int .i64 c.num, .int .i64 m] 47)) = W0 := ⟨_, rfl⟩
  rw [hW0] at hz hB0 hZ0 ⊢
  obtain ⟨_, _, _, _, z4⟩ := hz
  clear hW0 c0 c1 c2 c3 c4
  go_loopw [1, 5, 7] (fun va v vi wr => ∃ j q, j ≤ m ∧ vi = .int .i64 (j : Nat) ∧ iterE xs j (i + 1) = q ∧ va = .int .i64 (q : Nat) ∧ wr.ownsRow W0.heap.size 3 1 v j (iv ((kidsN xs j (i + 1)).map Int.ofNat)) ∧ Below W0.heap.size W0 wr) (fun _ _ vi _ => m - (intOf vi).toNat)
  case atStart => exact ⟨0, i + 1, Nat.zero_le _, rfl, rfl, by go_num, World.ownsRow_nil _ _ _ _, Below.refl _ _⟩
  case round =>
    obtain ⟨j, q, hj, rfl, hjq, rfl, hown, hbr⟩ := hrel
    have z4r := (hbr.cell (p := ⟨w.heap.size, 4, none⟩) hZ0).trans z4
    have hbs := hbr.size
    obtain ⟨A2, c2, rfl, hc2, hcm⟩ := own_slice hown
    by_cases hlt2 : j < m
    · have hq1 := F3.out j hlt2
      rw [hjq] at hq1
      have hql : q < xs.length := by omega
      have hsucc := kidsN_succ xs j (i + 1)
      rw [hjq] at hsucc
      obtain ⟨nx, hnx⟩ : ∃ nx, endN xs q = nx := ⟨_, rfl⟩
      have hnx2 : iterE xs (j + 1) (i + 1) = nx := by rw [iterE_succ, hjq, hnx]
      have hcall := fun w1 (hb : Below w.heap.size w w1) => HBEH.out w1 hb q hql
      rw [hnx] at hcall
      have HS := Lib.hid hsucc
      have HN2 := Lib.hid hnx2
      have hltd : decide ((j : Int) < m) = true := by simp; omega
      clear hjq hnx hsucc hnx2
      go_wp2_with (first | (at_builtin; refine wpList_append_rd _ (by rfl) _ _ _ (by rfl) W0.heap.size 3 i0 (.int .i64 0) 8 Tryz.underlying93 hi hz0 hz1 hz2 (by rfl) (.slice A2 j c2) j (iv ((kidsN xs j (i + 1)).map Int.ofNat)) (by rfl) (hown.alloc _) (B := wr.heap.size + 1) (some ⟨wr.heap.size, 0, none⟩) 1 1 [.int .i64 q] (by rfl) (rd_new wr #[.int .i64 q] 3 [.int .i64 q] rfl) rfl (by simp [Value.oneCell']) (by unfold maxLen; omega) (by omega) (by simp; omega) ?_; intro v5 w3 hown3 hgrow hrow; have hB3 : Below W0.heap.size W0 w3 := Below.grown (hbr.alloc (by omega) _) hgrow (by simp; omega) hrow))
      refine (hcall w3 (hB0.trans (hB3.mono hB0.size))).mono ?_
      rintro e2 w5 ⟨rfl, hb5⟩
      go_wp2
      go_roundw
      case rel => exact ⟨j + 1, nx, by omega, by go_num, HN2.out, rfl, by rw [HS.out]; exact own_below (by simpa [iv] using hown3) hb5 (own_lt hown3), hB3.trans (hb5.mono hB3.size)⟩
      case measure => simp [intOf]; omega
    · obtain rfl : j = m := by omega
      have hltd : decide ((j : Int) < j) = false := by simp
      have HO := Lib.hid hown
      go_wp2
      go_ret
      refine ⟨_, rfl, ?_, hB0.trans (hbr.mono hB0.size)⟩
      rw [kidsN_len]
      exact own_base HO.out hB0.size
open Go.RowKit
def ofR (xs : List Cel) (i : Nat) (nm : ByteArray) : Option Nat := if kindAt xs i = 7 then (kidL xs i).find? (isNm xs nm) else none
def findA (p : Nat → Bool) : List Nat → Int
  | [] => -1
  | q :: r => if p q = true then (q : Int) else findA p r
theorem findA_ans (p : Nat → Bool) : ∀ l, findA p l = ans (l.find? p)
  | [] => rfl
  | q :: r => by
    cases h : p q with
    | true => rw [findA, if_pos h, List.find?_cons_of_pos h]; rfl
    | false => rw [findA, if_neg (by simp [h]), List.find?_cons_of_neg (by simp [h]), findA_ans p r]
theorem findA_drop {p : Nat → Bool} {l : List Nat} {k : Nat} (h : k < l.length) : findA p (l.drop k) = if p l[k] = true then (l[k] : Int) else findA p (l.drop (k + 1)) := by
  rw [List.drop_eq_getElem_cons h, findA]
theorem kidL_len {xs : List Cel} (hm : mayC xs = true) {i : Nat} (hil : i < xs.length) : (kidL xs i).length ≤ 2048 := by
  have hlen := mayC_len hm
  have hbi := may_ends hm hil
  obtain ⟨c, hci⟩ : ∃ c, xs[i]? = some c := ⟨xs[i], List.getElem?_eq_getElem hil⟩
  obtain ⟨f1, f2, f3⟩ := kids_facts hci hbi.1
  rw [kidL, hci]
  simp only
  rw [kidsN_len]
  have hall : ∀ j, j ≤ c.many.toNat → j + i + 1 ≤ iterE xs j (i + 1) := by
    intro j
    induction j with
    | zero => intro _; show 0 + i + 1 ≤ i + 1; omega
    | succ j ih =>
      intro hj
      have h1 := ih (by omega)
      have h2 := f3 j (by omega)
      rw [iterE_succ]
      have := (may_ends hm (i := iterE xs j (i + 1)) (by omega)).2.1
      omega
  have := hall _ (Nat.le_refl _)
  omega
set_option maxHeartbeats 4000000 in
theorem of_ref {xs : List Cel} (A : Option Addr) (cap i : Nat) (nm : ByteArray) (w : World) {B : Nat} (h : InR xs A w B) (hm : mayC xs = true) (hil : i < xs.length) :
    Calls Tryz.prog 63 #[.slice A xs.length cap, .int .i64 i, .string nm] w fun e w' => e = .returned (.int .i64 (ans (ofR xs i nm))) ∧ Below w.heap.size w w' := by
  have hun := under_ref A cap i w h hm hil
  have hll := kidL_len hm hil
  have hlq := kidL_lt (may_ends hm hil).1
  obtain ⟨b, off, rfl, hbw, _, k0⟩ := name_cell h.rd h.le (Below.refl _ _) hil
  have hnames : ∀ q, q < xs.length → w.cell? ⟨b, off + q * 5 + 1, none⟩ = some (.string (nameAt xs q)) := by
    intro q hq
    obtain ⟨b', off', e, _, n1, _⟩ := name_cell h.rd h.le (Below.refl _ _) hq
    simp only [Option.some.injEq, Addr.mk.injEq, and_true] at e
    obtain ⟨rfl, rfl⟩ := e
    exact n1
  obtain ⟨V, hV⟩ : ∃ V, ans (ofR xs i nm) = V := ⟨_, rfl⟩
  rw [hV]
  unfold ofR at hV
  obtain ⟨kd, hkd⟩ : ∃ kd, kindAt xs i = kd := ⟨_, rfl⟩
  rw [hkd] at hV k0
  obtain ⟨l, hl⟩ : ∃ l, kidL xs i = l := ⟨_, rfl⟩
  rw [hl] at hV hun hll hlq
  have hilI : (i : Int) < xs.length := by omega
  have HNM := Lib.hid hnames
  have HLQ := Lib.hid hlq
  clear hkd hl hm h hnames hlq
  by_cases h7 : kd = 7
  · subst h7
    rw [if_pos rfl, ← findA_ans] at hV
    have HV := Lib.hid hV
    clear hV
    go_enter Tryz.func63, Tryz.ntmps63
    go_wp2_with fail
    refine hun.mono ?_
    rintro e w1 ⟨v, rfl, hown, hb⟩
    obtain ⟨A2, c2, rfl, hc2, hcm⟩ := own_slice hown
    have hrd := Rd.of_own hown
    have HRD := Lib.hid hrd
    clear hown hrd
    go_wp2
    go_loopw [8] (fun vi wr => ∃ k : Nat, k ≤ l.length ∧ vi = .int .i64 k ∧ findA (isNm xs nm) (l.drop k) = V ∧ wr = w1) (fun vi _ => l.length - (intOf vi).toNat)
    case atStart => exact ⟨0, Nat.zero_le _, rfl, by rw [List.drop_zero, HV.out], rfl⟩
    case round =>
      obtain ⟨k, hk, rfl, hd, rfl⟩ := hrel
      have k1 := (hb.cell (p := ⟨b, off + i * 5, none⟩) hbw).trans k0
      by_cases hlt : k < l.length
      · rw [findA_drop hlt] at hd
        obtain ⟨b2, off2, rfl, hb2, hc3⟩ := HRD.out.at' (k := k) (by simp [iv]; exact hlt)
        have hck := hc3 k (by simp [iv]; exact hlt)
        simp only [iv, List.getElem_map, Int.ofNat_eq_natCast] at hck
        have hql := HLQ.out l[k] (List.getElem_mem hlt)
        have n1 := (hb.cell (p := ⟨b, off + l[k] * 5 + 1, none⟩) hbw).trans (HNM.out _ hql)
        obtain ⟨q, hqq⟩ : ∃ q, l[k] = q := ⟨_, rfl⟩
        rw [hqq] at hd hck n1 hql
        obtain ⟨nq, hnq⟩ : ∃ nq, nameAt xs q = nq := ⟨_, rfl⟩
        rw [hnq] at n1
        have hin : isNm xs nm q = (nq.toList == nm.toList) := by rw [isNm, hnq, ba_beq]
        have hlI : (k : Int) < l.length := by omega
        have hqI : (q : Int) < xs.length := by omega
        have hltd : decide ((k : Int) < l.length) = true := by simp; omega
        rw [hin] at hd
        clear hc3 hqq hnq hin
        cases hp : (nq.toList == nm.toList) with
        | true =>
          rw [hp, if_pos rfl] at hd
          subst hd
          clear HV
          go_wp2
          go_ret
          exact ⟨rfl, hb⟩
        | false =>
          rw [hp, if_neg (by simp)] at hd
          have HD := Lib.hid hd
          clear hd
          go_wp2
          go_roundw
          case rel => exact ⟨k + 1, hlt, by go_num, HD.out, trivial⟩
          case measure => simp [intOf]; omega
      · obtain rfl : k = l.length := by omega
        rw [List.drop_of_length_le (Nat.le_refl _)] at hd
        have hv2 : V = -1 := by rw [← hd]; rfl
        subst hv2
        have hltd : decide ((l.length : Int) < l.length) = false := by simp
        clear hd HV
        go_wp2
        go_ret
        exact ⟨rfl, hb⟩
  · rw [if_neg h7] at hV
    subst hV
    have hkB : ((kd : Int) == 7) = false := beq_eq_false_iff_ne.2 (by omega)
    go_enter Tryz.func63, Tryz.ntmps63
    go_wp2_with fail
    refine hun.mono ?_
    rintro e w1 ⟨v, rfl, hown, hb⟩
    obtain ⟨A2, c2, rfl, hc2, hcm⟩ := own_slice hown
    clear hown
    have k1 := (hb.cell (p := ⟨b, off + i * 5, none⟩) hbw).trans k0
    go_wp2
    go_loopw [8] (fun vi wr => vi = .int .i64 0 ∧ wr = w1) (fun _ _ => 0)
    case atStart => exact ⟨rfl, rfl⟩
    case round =>
      obtain ⟨rfl, rfl⟩ := hrel
      by_cases hl0 : (0 : Int) < l.length
      · have hltd : decide ((0 : Int) < l.length) = true := decide_eq_true hl0
        go_wp2
        go_ret
        exact ⟨rfl, hb⟩
      · have hltd : decide ((0 : Int) < l.length) = false := decide_eq_false hl0
        go_wp2
        go_ret
        exact ⟨rfl, hb⟩
set_option maxHeartbeats 2000000 in
theorem cut_ref {xs : List Cel} (A : Option Addr) (cap i : Nat) (w : World) {B : Nat} (h : InR xs A w B) (hm : mayC xs = true) (hil : i < xs.length) (hcap : xs.length ≤ cap) (_hcm : cap ≤ maxLen) :
    Calls Tryz.prog 80 #[.slice A xs.length cap, .int .i64 i] w fun e w' => ∃ v, e = .returned v ∧ w'.ownsRow w.heap.size 47 5 v (subL xs i).length (cv (subL xs i)) ∧ Below w.heap.size w w' := by
  unfold maxLen at _hcm
  have hbeh := h.behind cap i (by omega)
  rw [ans_end hm hil] at hbeh
  obtain ⟨_, g1, g2⟩ := may_ends hm hil
  have hml := mayC_len hm
  obtain ⟨b, off, rfl, _, _⟩ := h.rd.cel1 (List.getElem?_eq_getElem hil)
  obtain ⟨R, hR⟩ : ∃ R, subL xs i = R := ⟨_, rfl⟩
  rw [hR]
  unfold subL at hR
  obtain ⟨n, hn⟩ : ∃ n, endN xs i = n := ⟨_, rfl⟩
  rw [hn] at hbeh g1 g2 hR
  obtain ⟨ys, hys⟩ : ∃ ys, (xs.drop i).take (n - i) = ys := ⟨_, rfl⟩
  have hyl : ys.length = n - i := by rw [← hys]; simp; omega
  have hcl := fun w1 (hb : Below w.heap.size w w1) => twin_ref (xs := ys) (some ⟨b, off + i * 5, none⟩) (cap - i) w1 (B := B) (by rw [← hys]; exact rd_sub (h.rd.thru hb h.le) i (n - i)) (by omega)
  rw [hyl] at hcl
  rw [hys] at hR
  have hniI : ((n - i : Nat) : Int) = (n : Int) - i := by omega
  have hiI : (i : Int) < xs.length := by omega
  clear hm hn hys h
  go_enter Tryz.func80, Tryz.ntmps80
  go_wp2_with fail
  refine hbeh.mono ?_
  rintro e w1 ⟨rfl, hb⟩
  go_wp2_with fail
  refine (hcl w1 hb).mono ?_
  rintro e w2 ⟨v, rfl, hown, hb2⟩
  obtain ⟨g, c2, cur, rfl, q1, q2, q3, q4, q5, q6⟩ := own_some hown (by omega)
  have hcell : ∃ x, w2.cell? ⟨g, 1, none⟩ = some x := by
    refine ⟨cur[1]'(by rw [q5]; omega), ?_⟩
    rw [cell_of_row w2 g 1 _ _ (0, 0) q4, Array.getElem?_eq_getElem]
  obtain ⟨x, hx⟩ := hcell
  have hfz : w2.frozen? ⟨g, 1, none⟩ = false := by simp [World.frozen?, q4]
  have hnz : (0 : Int) < ((n - i : Nat) : Int) := by omega
  have HO := Lib.hid hown
  clear q4 q5 q6 hown hcl hbeh
  go_wp2
  go_ret
  refine ⟨_, rfl, ?_, (hb.trans (hb2.mono hb.size)).setCell (by have := hb.size; show w.heap.size ≤ g; omega) _⟩
  rw [← hR, bare_len, hyl, cv_bare ys (by intro e; rw [e] at hyl; simp at hyl; omega)]
  exact own_base (own_set HO.out 1 _ (by rw [cv_len]; omega)) hb.size
end
end Go.Proofs.YtcgioepbooafcaaGreatDoor
