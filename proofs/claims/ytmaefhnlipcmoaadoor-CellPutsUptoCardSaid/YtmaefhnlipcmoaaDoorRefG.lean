/- The reference's Of, Member, Cut, Sub. Conditions: texts of at most 2,000,000 bytes; at most 1,000,000 cells. The reference's End, Under, Kids. Conditions: texts of at most 2,000,000 bytes; at most 1,000,000 cells. -/
import Derived.Test.YtmaefhnlipcmoaaDoorFnU
namespace Go.Proofs.YtmaefhnlipcmoaaDoor
open Go.RowKit
structure InR (xs : List Cel) (A : Option Addr) (w : World) (B : Nat) : Prop where
  rd : Rd w B A (cv xs)
  le : B ≤ w.heap.size
  len : xs.length ≤ 1000000
  wf : ∀ c ∈ xs, CelW 2000000 c
theorem InR.below {xs : List Cel} {A : Option Addr} {w w' : World} {B : Nat} (h : InR xs A w B) (hb : Below w.heap.size w w') : InR xs A w' B :=
  ⟨h.rd.thru hb h.le, Nat.le_trans h.le hb.size, h.len, h.wf⟩
theorem InR.behind {xs : List Cel} {A : Option Addr} {w : World} {B : Nat} (h : InR xs A w B) (cap a : Nat) (ha : a ≤ xs.length) :
    Calls Tryd.prog 43 #[.slice A xs.length cap, .int .i64 a, .int .i64 16] w fun e w' => e = .returned (.int .i64 (ans (bh xs 16 a))) ∧ Below w.heap.size w w' :=
  behind_ref A cap h.len h.wf 16 (by omega) a w h.rd h.le ha
theorem ans_end {xs : List Cel} {i : Nat} (h : mayC xs = true) (hi : i < xs.length) : ans (bh xs 16 i) = (endN xs i : Int) := by
  rw [(may_ends h hi).1]
  rfl
set_option maxHeartbeats 1000000 in
theorem end_ref {xs : List Cel} (A : Option Addr) (cap : Nat) (a : Int) (w : World) {B : Nat} (h : InR xs A w B) :
    Calls Tryd.prog 22 #[.slice A xs.length cap, .int .i64 a] w fun e w' => e = .returned (.tuple #[.int .i64 (endR xs a), .int .i64 (askedC xs a)]) ∧ Below w.heap.size w w' := by
  have hc := asked_ref A cap a w h.rd h.le h.len h.wf
  obtain ⟨V, hV⟩ : ∃ V, askedC xs a = V := ⟨_, rfl⟩
  obtain ⟨R, hR⟩ : ∃ R, endR xs a = R := ⟨_, rfl⟩
  rw [hR]
  unfold endR at hR
  rw [hV] at hc hR ⊢
  by_cases h0 : V = 0
  · subst h0
    obtain ⟨hm, ha0, hal⟩ := askedC_ok hV
    obtain ⟨i, rfl⟩ : ∃ i : Nat, a = i := ⟨a.toNat, by omega⟩
    rw [Int.toNat_natCast] at hal
    have hbeh := fun w1 (hb : Below w.heap.size w w1) => (h.below hb).behind cap i (by omega)
    rw [ans_end hm hal] at hbeh
    rw [if_pos rfl, Int.toNat_natCast] at hR
    rw [hR] at hbeh
    clear hR hV hm h
    go_enter Tryd.func22, Tryd.ntmps22
    go_wp2_with fail
    refine hc.mono ?_
    rintro e w1 ⟨rfl, hb⟩
    go_wp2_with fail
    refine (hbeh w1 hb).mono ?_
    rintro e w2 ⟨rfl, hb2⟩
    go_wp2
    go_ret2
    exact ⟨rfl, hb.trans (hb2.mono hb.size)⟩
  · rw [if_neg h0] at hR
    subst hR
    have hneB : (V != 0) = true := bne_iff_ne.2 h0
    clear h0 hV h
    go_enter Tryd.func22, Tryd.ntmps22
    go_wp2_with fail
    refine hc.mono ?_
    rintro e w1 ⟨rfl, hb⟩
    go_wp2
    go_ret2
    exact ⟨rfl, hb⟩
set_option maxRecDepth 100000 in
set_option maxHeartbeats 4000000 in
theorem under_ref {xs : List Cel} (A : Option Addr) (cap i : Nat) (w : World) {B : Nat} (h : InR xs A w B) (hm : mayC xs = true) (hil : i < xs.length) :
    Calls Tryd.prog 44 #[.slice A xs.length cap, .int .i64 i] w fun e w' => ∃ v, e = .returned v ∧ w'.ownsRow w.heap.size 3 1 v (kidL xs i).length (iv ((kidL xs i).map Int.ofNat)) ∧ Below w.heap.size w w' := by
  obtain ⟨i0, hi, hz0, hz1, hz2⟩ := info_parts info_int
  obtain ⟨c, hci⟩ : ∃ c, xs[i]? = some c := ⟨xs[i], List.getElem?_eq_getElem hil⟩
  obtain ⟨b, off, rfl, hb, c0, c1, c2, c3, c4⟩ := h.rd.cel1 hci
  have hlen := mayC_len hm
  have hbi := may_ends hm hil
  obtain ⟨f1, f2, f3⟩ := kids_facts hci hbi.1
  have hmany : 0 ≤ c.many := by
    have ho : oneC c = true := by
      cases g : oneC c with
      | true => rfl
      | false => have := hbi.1; rw [bh_bad hci g] at this; cases this
    by_cases hk : nest c
    · exact oneC_many ho hk
    · rw [oneC_leaf ho hk]
      exact Int.le_refl _
  obtain ⟨m, hmm⟩ : ∃ m : Nat, c.many = m := ⟨c.many.toNat, by omega⟩
  have hmt : c.many.toNat = m := by omega
  rw [kidL, hci]
  simp only
  rw [hmt] at f1 f3 ⊢
  have hbeh := fun w1 (hb : Below w.heap.size w w1) q (hq : q < xs.length) => ans_end hm hq ▸ (h.below hb).behind cap q (by omega)
  have HBEH := Lib.hid hbeh
  have hbw : b < w.heap.size := by have := h.le; omega
  have hlI : (i : Int) < xs.length := by omega
  obtain ⟨n, hn⟩ : ∃ n, endN xs i = n := ⟨_, rfl⟩
  rw [hn] at f1 f2 f3 hbi
  rw [hmm] at c4
  have hall : ∀ j, j ≤ m → j + i + 1 ≤ iterE xs j (i + 1) := by
    intro j
    induction j with
    | zero => intro _; show 0 + i + 1 ≤ i + 1; omega
    | succ j ih =>
      intro hj
      have h1 := ih (by omega)
      have h2 := f3 j (by omega)
      rw [iterE_succ]
      have := (may_ends hm (i := iterE xs j (i + 1)) (by omega)).2.1
      omega
  have hmI : m ≤ 2048 := by
    have := hall m (Nat.le_refl _)
    omega
  have F3 := Lib.hid f3
  have HALL := Lib.hid hall
  have F1 := Lib.hid f1
  have hn2 : n ≤ xs.length := hbi.2.2
  clear hbeh f1 f3 hall hbi hn hmany hmm hmt hm h hci
  go_enter Tryd.func44, Tryd.ntmps44
  go_wp2
  have hz := new5 w (w.alloc (.cells #[.int .u8 c.kind, .string c.name, .string c.text, .int .i64 c.num, .int .i64 m] 45)) _ _ _ _ _ _ (Below.refl _ _)
  have hB0 : Below w.heap.size w (w.alloc (.cells #[.int .u8 c.kind, .string c.name, .string c.text, .int .i64 c.num, .int .i64 m] 45)) := (Below.refl _ _).alloc (Nat.le_refl _) _
  have hZ0 : w.heap.size < (w.alloc (.cells #[.int .u8 c.kind, .string c.name, .string c.text, .int .i64 c.num, .int .i64 m] 45)).heap.size := by simp
  obtain ⟨W0, hW0⟩ : ∃ W0, (w.alloc (.cells #[.int .u8 c.kind, .string c.name, .string c.text, .int .i64 c.num, .int .i64 m] 45)) = W0 := ⟨_, rfl⟩
  rw [hW0] at hz hB0 hZ0 ⊢
  obtain ⟨_, _, _, _, z4⟩ := hz
  clear hW0 c0 c1 c2 c3 c4
  go_loopw [1, 5, 7] (fun va v vi wr => ∃ j q, j ≤ m ∧ vi = .int .i64 (j : Nat) ∧ iterE xs j (i + 1) = q ∧ va = .int .i64 (q : Nat) ∧ wr.ownsRow W0.heap.size 3 1 v j (iv ((kidsN xs j (i + 1)).map Int.ofNat)) ∧ Below W0.heap.size W0 wr) (fun _ _ vi _ => m - (intOf vi).toNat)
  case atStart => exact ⟨0, i + 1, Nat.zero_le _, rfl, rfl, by go_num, World.ownsRow_nil _ _ _ _, Below.refl _ _⟩
  case round =>
    obtain ⟨j, q, hj, rfl, hjq, rfl, hown, hbr⟩ := hrel
    have z4r := (hbr.cell (p := ⟨w.heap.size, 4, none⟩) hZ0).trans z4
    have hbs := hbr.size
    obtain ⟨A2, c2, rfl, hc2, hcm⟩ := own_slice hown
    by_cases hlt2 : j < m
    · have hq1 := F3.out j hlt2
      rw [hjq] at hq1
      have hql : q < xs.length := by omega
      have hsucc := kidsN_succ xs j (i + 1)
      rw [hjq] at hsucc
      obtain ⟨nx, hnx⟩ : ∃ nx, endN xs q = nx := ⟨_, rfl⟩
      have hnx2 : iterE xs (j + 1) (i + 1) = nx := by rw [iterE_succ, hjq, hnx]
      have hcall := fun w1 (hb : Below w.heap.size w w1) => HBEH.out w1 hb q hql
      rw [hnx] at hcall
      have HS := Lib.hid hsucc
      have HN2 := Lib.hid hnx2
      have hltd : decide ((j : Int) < m) = true := by simp; omega
      clear hjq hnx hsucc hnx2
      go_wp2_with (first | (at_builtin; refine wpList_append_rd _ (by rfl) _ _ _ (by rfl) W0.heap.size 3 i0 (.int .i64 0) 8 Tryd.underlying37 hi hz0 hz1 hz2 (by rfl) (.slice A2 j c2) j (iv ((kidsN xs j (i + 1)).map Int.ofNat)) (by rfl) (hown.alloc _) (B := wr.heap.size + 1) (some ⟨wr.heap.size, 0, none⟩) 1 1 [.int .i64 q] (by rfl) (rd_new wr #[.int .i64 q] 3 [.int .i64 q] rfl) rfl (by simp [Value.oneCell']) (by unfold maxLen; omega) (by omega) (by simp; omega) ?_; intro v5 w3 hown3 hgrow hrow; have hB3 : Below W0.heap.size W0 w3 := Below.grown (hbr.alloc (by omega) _) hgrow (by simp; omega) hrow))
      refine (hcall w3 (hB0.trans (hB3.mono hB0.size))).mono ?_
      rintro e2 w5 ⟨rfl, hb5⟩
      go_wp2
      go_roundw
      case rel => exact ⟨j + 1, nx, by omega, by go_num, HN2.out, rfl, by rw [HS.out]; exact own_below (by simpa [iv] using hown3) hb5 (own_lt hown3), hB3.trans (hb5.mono hB3.size)⟩
      case measure => simp [intOf]; omega
    · obtain rfl : j = m := by omega
      have hltd : decide ((j : Int) < j) = false := by simp
      have HO := Lib.hid hown
      go_wp2
      go_ret
      refine ⟨_, rfl, ?_, hB0.trans (hbr.mono hB0.size)⟩
      rw [kidsN_len]
      exact own_base HO.out hB0.size
set_option maxHeartbeats 1000000 in
theorem kids_ref {xs : List Cel} (A : Option Addr) (cap : Nat) (a : Int) (w : World) {B : Nat} (h : InR xs A w B) :
    Calls Tryd.prog 23 #[.slice A xs.length cap, .int .i64 a] w fun e w' => ∃ v, e = .returned (.tuple #[v, .int .i64 (askedC xs a)]) ∧ w'.ownsRow w.heap.size 3 1 v (kidsR xs a).length (iv (kidsR xs a)) ∧ Below w.heap.size w w' := by
  have hc := asked_ref A cap a w h.rd h.le h.len h.wf
  obtain ⟨V, hV⟩ : ∃ V, askedC xs a = V := ⟨_, rfl⟩
  obtain ⟨R, hR⟩ : ∃ R, kidsR xs a = R := ⟨_, rfl⟩
  rw [hR]
  unfold kidsR at hR
  rw [hV] at hc hR ⊢
  by_cases h0 : V = 0
  · subst h0
    obtain ⟨hm, ha0, hal⟩ := askedC_ok hV
    obtain ⟨i, rfl⟩ : ∃ i : Nat, a = i := ⟨a.toNat, by omega⟩
    rw [Int.toNat_natCast] at hal
    have hun := fun w1 (hb : Below w.heap.size w w1) => under_ref A cap i w1 (h.below hb) hm hal
    rw [if_pos rfl, Int.toNat_natCast] at hR
    rw [hR] at hun
    have hRl : (kidL xs i).length = R.length := by rw [← hR, List.length_map]
    rw [hRl] at hun
    clear hR hV hm h hRl
    go_enter Tryd.func23, Tryd.ntmps23
    go_wp2_with fail
    refine hc.mono ?_
    rintro e w1 ⟨rfl, hb⟩
    go_wp2_with fail
    refine (hun w1 hb).mono ?_
    rintro e w2 ⟨v, rfl, hown, hb2⟩
    have HO := Lib.hid hown
    clear hown
    go_wp2
    go_ret2
    exact ⟨_, rfl, own_base HO.out hb.size, hb.trans (hb2.mono hb.size)⟩
  · rw [if_neg h0] at hR
    subst hR
    have hneB : (V != 0) = true := bne_iff_ne.2 h0
    clear h0 hV h
    go_enter Tryd.func23, Tryd.ntmps23
    go_wp2_with fail
    refine hc.mono ?_
    rintro e w1 ⟨rfl, hb⟩
    go_wp2
    go_ret2
    exact ⟨_, rfl, World.ownsRow_nil _ _ _ _, hb⟩
open Go.RowKit
def ofR (xs : List Cel) (i : Nat) (nm : ByteArray) : Option Nat := if kindAt xs i = 7 then (kidL xs i).find? (isNm xs nm) else none
def findA (p : Nat → Bool) : List Nat → Int
  | [] => -1
  | q :: r => if p q = true then (q : Int) else findA p r
theorem findA_ans (p : Nat → Bool) : ∀ l, findA p l = ans (l.find? p)
  | [] => rfl
  | q :: r => by
    cases h : p q with
    | true => rw [findA, if_pos h, List.find?_cons_of_pos h]; rfl
    | false => rw [findA, if_neg (by simp [h]), List.find?_cons_of_neg (by simp [h]), findA_ans p r]
theorem findA_drop {p : Nat → Bool} {l : List Nat} {k : Nat} (h : k < l.length) : findA p (l.drop k) = if p l[k] = true then (l[k] : Int) else findA p (l.drop (k + 1)) := by
  rw [List.drop_eq_getElem_cons h, findA]
theorem kidL_len {xs : List Cel} (hm : mayC xs = true) {i : Nat} (hil : i < xs.length) : (kidL xs i).length ≤ 2048 := by
  have hlen := mayC_len hm
  have hbi := may_ends hm hil
  obtain ⟨c, hci⟩ : ∃ c, xs[i]? = some c := ⟨xs[i], List.getElem?_eq_getElem hil⟩
  obtain ⟨f1, f2, f3⟩ := kids_facts hci hbi.1
  rw [kidL, hci]
  simp only
  rw [kidsN_len]
  have hall : ∀ j, j ≤ c.many.toNat → j + i + 1 ≤ iterE xs j (i + 1) := by
    intro j
    induction j with
    | zero => intro _; show 0 + i + 1 ≤ i + 1; omega
    | succ j ih =>
      intro hj
      have h1 := ih (by omega)
      have h2 := f3 j (by omega)
      rw [iterE_succ]
      have := (may_ends hm (i := iterE xs j (i + 1)) (by omega)).2.1
      omega
  have := hall _ (Nat.le_refl _)
  omega
set_option maxHeartbeats 4000000 in
theorem of_ref {xs : List Cel} (A : Option Addr) (cap i : Nat) (nm : ByteArray) (w : World) {B : Nat} (h : InR xs A w B) (hm : mayC xs = true) (hil : i < xs.length) :
    Calls Tryd.prog 45 #[.slice A xs.length cap, .int .i64 i, .string nm] w fun e w' => e = .returned (.int .i64 (ans (ofR xs i nm))) ∧ Below w.heap.size w w' := by
  have hun := under_ref A cap i w h hm hil
  have hll := kidL_len hm hil
  have hlq := kidL_lt (may_ends hm hil).1
  obtain ⟨b, off, rfl, hbw, _, k0⟩ := name_cell h.rd h.le (Below.refl _ _) hil
  have hnames : ∀ q, q < xs.length → w.cell? ⟨b, off + q * 5 + 1, none⟩ = some (.string (nameAt xs q)) := by
    intro q hq
    obtain ⟨b', off', e, _, n1, _⟩ := name_cell h.rd h.le (Below.refl _ _) hq
    simp only [Option.some.injEq, Addr.mk.injEq, and_true] at e
    obtain ⟨rfl, rfl⟩ := e
    exact n1
  obtain ⟨V, hV⟩ : ∃ V, ans (ofR xs i nm) = V := ⟨_, rfl⟩
  rw [hV]
  unfold ofR at hV
  obtain ⟨kd, hkd⟩ : ∃ kd, kindAt xs i = kd := ⟨_, rfl⟩
  rw [hkd] at hV k0
  obtain ⟨l, hl⟩ : ∃ l, kidL xs i = l := ⟨_, rfl⟩
  rw [hl] at hV hun hll hlq
  have hilI : (i : Int) < xs.length := by omega
  have HNM := Lib.hid hnames
  have HLQ := Lib.hid hlq
  clear hkd hl hm h hnames hlq
  by_cases h7 : kd = 7
  · subst h7
    rw [if_pos rfl, ← findA_ans] at hV
    have HV := Lib.hid hV
    clear hV
    go_enter Tryd.func45, Tryd.ntmps45
    go_wp2_with fail
    refine hun.mono ?_
    rintro e w1 ⟨v, rfl, hown, hb⟩
    obtain ⟨A2, c2, rfl, hc2, hcm⟩ := own_slice hown
    have hrd := Rd.of_own hown
    have HRD := Lib.hid hrd
    clear hown hrd
    go_wp2
    go_loopw [8] (fun vi wr => ∃ k : Nat, k ≤ l.length ∧ vi = .int .i64 k ∧ findA (isNm xs nm) (l.drop k) = V ∧ wr = w1) (fun vi _ => l.length - (intOf vi).toNat)
    case atStart => exact ⟨0, Nat.zero_le _, rfl, by rw [List.drop_zero, HV.out], rfl⟩
    case round =>
      obtain ⟨k, hk, rfl, hd, rfl⟩ := hrel
      have k1 := (hb.cell (p := ⟨b, off + i * 5, none⟩) hbw).trans k0
      by_cases hlt : k < l.length
      · rw [findA_drop hlt] at hd
        obtain ⟨b2, off2, rfl, hb2, hc3⟩ := HRD.out.at' (k := k) (by simp [iv]; exact hlt)
        have hck := hc3 k (by simp [iv]; exact hlt)
        simp only [iv, List.getElem_map, Int.ofNat_eq_natCast] at hck
        have hql := HLQ.out l[k] (List.getElem_mem hlt)
        have n1 := (hb.cell (p := ⟨b, off + l[k] * 5 + 1, none⟩) hbw).trans (HNM.out _ hql)
        obtain ⟨q, hqq⟩ : ∃ q, l[k] = q := ⟨_, rfl⟩
        rw [hqq] at hd hck n1 hql
        obtain ⟨nq, hnq⟩ : ∃ nq, nameAt xs q = nq := ⟨_, rfl⟩
        rw [hnq] at n1
        have hin : isNm xs nm q = (nq.toList == nm.toList) := by rw [isNm, hnq, ba_beq]
        have hlI : (k : Int) < l.length := by omega
        have hqI : (q : Int) < xs.length := by omega
        have hltd : decide ((k : Int) < l.length) = true := by simp; omega
        rw [hin] at hd
        clear hc3 hqq hnq hin
        cases hp : (nq.toList == nm.toList) with
        | true =>
          rw [hp, if_pos rfl] at hd
          subst hd
          clear HV
          go_wp2
          go_ret
          exact ⟨rfl, hb⟩
        | false =>
          rw [hp, if_neg (by simp)] at hd
          have HD := Lib.hid hd
          clear hd
          go_wp2
          go_roundw
          case rel => exact ⟨k + 1, hlt, by go_num, HD.out, trivial⟩
          case measure => simp [intOf]; omega
      · obtain rfl : k = l.length := by omega
        rw [List.drop_of_length_le (Nat.le_refl _)] at hd
        have hv2 : V = -1 := by rw [← hd]; rfl
        subst hv2
        have hltd : decide ((l.length : Int) < l.length) = false := by simp
        clear hd HV
        go_wp2
        go_ret
        exact ⟨rfl, hb⟩
  · rw [if_neg h7] at hV
    subst hV
    have hkB : ((kd : Int) == 7) = false := beq_eq_false_iff_ne.2 (by omega)
    go_enter Tryd.func45, Tryd.ntmps45
    go_wp2_with fail
    refine hun.mono ?_
    rintro e w1 ⟨v, rfl, hown, hb⟩
    obtain ⟨A2, c2, rfl, hc2, hcm⟩ := own_slice hown
    clear hown
    have k1 := (hb.cell (p := ⟨b, off + i * 5, none⟩) hbw).trans k0
    go_wp2
    go_loopw [8] (fun vi wr => vi = .int .i64 0 ∧ wr = w1) (fun _ _ => 0)
    case atStart => exact ⟨rfl, rfl⟩
    case round =>
      obtain ⟨rfl, rfl⟩ := hrel
      by_cases hl0 : (0 : Int) < l.length
      · have hltd : decide ((0 : Int) < l.length) = true := decide_eq_true hl0
        go_wp2
        go_ret
        exact ⟨rfl, hb⟩
      · have hltd : decide ((0 : Int) < l.length) = false := decide_eq_false hl0
        go_wp2
        go_ret
        exact ⟨rfl, hb⟩
set_option maxHeartbeats 2000000 in
theorem member_ref {xs : List Cel} (A : Option Addr) (cap : Nat) (a : Int) (nm : ByteArray) (w : World) {B : Nat} (h : InR xs A w B) :
    Calls Tryd.prog 24 #[.slice A xs.length cap, .int .i64 a, .string nm] w fun e w' => e = .returned (.tuple #[.int .i64 ((memR xs a nm).getD 0 : Nat), .bool (memR xs a nm).isSome]) ∧ Below w.heap.size w w' := by
  have hc := asked_ref A cap a w h.rd h.le h.len h.wf
  obtain ⟨V, hV⟩ : ∃ V, askedC xs a = V := ⟨_, rfl⟩
  obtain ⟨R, hR⟩ : ∃ R, memR xs a nm = R := ⟨_, rfl⟩
  rw [hR]
  unfold memR at hR
  rw [hV] at hc hR
  by_cases h0 : V = 0
  · subst h0
    obtain ⟨hm, ha0, hal⟩ := askedC_ok hV
    obtain ⟨i, rfl⟩ : ∃ i : Nat, a = i := ⟨a.toNat, by omega⟩
    rw [Int.toNat_natCast] at hal hR
    have hof := fun w1 (hb : Below w.heap.size w w1) => of_ref A cap i nm w1 (h.below hb) hm hal
    have hRo : ofR xs i nm = R := by rw [← hR, ofR]; simp
    rw [hRo] at hof
    clear hR hV hm h hRo
    cases R with
    | none =>
      have hof' : ∀ w1, Below w.heap.size w w1 → Calls Tryd.prog 45 #[.slice A xs.length cap, .int .i64 i, .string nm] w1 fun e w' => e = .returned (.int .i64 (-1)) ∧ Below w1.heap.size w1 w' := hof
      clear hof
      go_enter Tryd.func24, Tryd.ntmps24
      go_wp2_with fail
      refine hc.mono ?_
      rintro e w1 ⟨rfl, hb⟩
      go_wp2_with fail
      refine (hof' w1 hb).mono ?_
      rintro e w2 ⟨rfl, hb2⟩
      go_wp2
      go_ret2
      exact ⟨rfl, hb.trans (hb2.mono hb.size)⟩
    | some q =>
      have hof' : ∀ w1, Below w.heap.size w w1 → Calls Tryd.prog 45 #[.slice A xs.length cap, .int .i64 i, .string nm] w1 fun e w' => e = .returned (.int .i64 (q : Nat)) ∧ Below w1.heap.size w1 w' := hof
      clear hof
      have hq0 : decide ((q : Int) < 0) = false := by simp
      go_enter Tryd.func24, Tryd.ntmps24
      go_wp2_with fail
      refine hc.mono ?_
      rintro e w1 ⟨rfl, hb⟩
      go_wp2_with fail
      refine (hof' w1 hb).mono ?_
      rintro e w2 ⟨rfl, hb2⟩
      have hb12 := hb.trans (hb2.mono hb.size)
      go_wp2_with fail
      refine (hof' w2 hb12).mono ?_
      rintro e w3 ⟨rfl, hb3⟩
      go_wp2
      go_ret2
      exact ⟨rfl, hb12.trans (hb3.mono hb12.size)⟩
  · rw [if_neg (fun g => h0 g.1)] at hR
    subst hR
    have hneB : (V != 0) = true := bne_iff_ne.2 h0
    clear h0 hV h
    go_enter Tryd.func24, Tryd.ntmps24
    go_wp2_with fail
    refine hc.mono ?_
    rintro e w1 ⟨rfl, hb⟩
    go_wp2
    go_ret2
    exact ⟨rfl, hb⟩
set_option maxHeartbeats 2000000 in
theorem cut_ref {xs : List Cel} (A : Option Addr) (cap i : Nat) (w : World) {B : Nat} (h : InR xs A w B) (hm : mayC xs = true) (hil : i < xs.length) (hcap : xs.length ≤ cap) (_hcm : cap ≤ maxLen) :
    Calls Tryd.prog 47 #[.slice A xs.length cap, .int .i64 i] w fun e w' => ∃ v, e = .returned v ∧ w'.ownsRow w.heap.size 45 5 v (subL xs i).length (cv (subL xs i)) ∧ Below w.heap.size w w' := by
  unfold maxLen at _hcm
  have hbeh := h.behind cap i (by omega)
  rw [ans_end hm hil] at hbeh
  obtain ⟨_, g1, g2⟩ := may_ends hm hil
  have hml := mayC_len hm
  obtain ⟨b, off, rfl, _, _⟩ := h.rd.cel1 (List.getElem?_eq_getElem hil)
  obtain ⟨R, hR⟩ : ∃ R, subL xs i = R := ⟨_, rfl⟩
  rw [hR]
  unfold subL at hR
  obtain ⟨n, hn⟩ : ∃ n, endN xs i = n := ⟨_, rfl⟩
  rw [hn] at hbeh g1 g2 hR
  obtain ⟨ys, hys⟩ : ∃ ys, (xs.drop i).take (n - i) = ys := ⟨_, rfl⟩
  have hyl : ys.length = n - i := by rw [← hys]; simp; omega
  have hcl := fun w1 (hb : Below w.heap.size w w1) => twin_ref (xs := ys) (some ⟨b, off + i * 5, none⟩) (cap - i) w1 (B := B) (by rw [← hys]; exact rd_sub (h.rd.thru hb h.le) i (n - i)) (by omega)
  rw [hyl] at hcl
  rw [hys] at hR
  have hniI : ((n - i : Nat) : Int) = (n : Int) - i := by omega
  have hiI : (i : Int) < xs.length := by omega
  clear hm hn hys h
  go_enter Tryd.func47, Tryd.ntmps47
  go_wp2_with fail
  refine hbeh.mono ?_
  rintro e w1 ⟨rfl, hb⟩
  go_wp2_with fail
  refine (hcl w1 hb).mono ?_
  rintro e w2 ⟨v, rfl, hown, hb2⟩
  obtain ⟨g, c2, cur, rfl, q1, q2, q3, q4, q5, q6⟩ := own_some hown (by omega)
  have hcell : ∃ x, w2.cell? ⟨g, 1, none⟩ = some x := by
    refine ⟨cur[1]'(by rw [q5]; omega), ?_⟩
    rw [cell_of_row w2 g 1 _ _ (0, 0) q4, Array.getElem?_eq_getElem]
  obtain ⟨x, hx⟩ := hcell
  have hfz : w2.frozen? ⟨g, 1, none⟩ = false := by simp [World.frozen?, q4]
  have hnz : (0 : Int) < ((n - i : Nat) : Int) := by omega
  have HO := Lib.hid hown
  clear q4 q5 q6 hown hcl hbeh
  go_wp2
  go_ret
  refine ⟨_, rfl, ?_, (hb.trans (hb2.mono hb.size)).setCell (by have := hb.size; show w.heap.size ≤ g; omega) _⟩
  rw [← hR, bare_len, hyl, cv_bare ys (by intro e; rw [e] at hyl; simp at hyl; omega)]
  exact own_base (own_set HO.out 1 _ (by rw [cv_len]; omega)) hb.size
set_option maxHeartbeats 1000000 in
theorem sub_ref {xs : List Cel} (A : Option Addr) (cap : Nat) (a : Int) (w : World) {B : Nat} (h : InR xs A w B) (hcap : xs.length ≤ cap) (hcm : cap ≤ maxLen) :
    Calls Tryd.prog 26 #[.slice A xs.length cap, .int .i64 a] w fun e w' => ∃ v, e = .returned (.tuple #[v, .int .i64 (askedC xs a)]) ∧ w'.ownsRow w.heap.size 45 5 v (subR xs a).length (cv (subR xs a)) ∧ Below w.heap.size w w' := by
  have hc := asked_ref A cap a w h.rd h.le h.len h.wf
  obtain ⟨V, hV⟩ : ∃ V, askedC xs a = V := ⟨_, rfl⟩
  obtain ⟨R, hR⟩ : ∃ R, subR xs a = R := ⟨_, rfl⟩
  rw [hR]
  unfold subR at hR
  rw [hV] at hc hR ⊢
  by_cases h0 : V = 0
  · subst h0
    obtain ⟨hm, ha0, hal⟩ := askedC_ok hV
    obtain ⟨i, rfl⟩ : ∃ i : Nat, a = i := ⟨a.toNat, by omega⟩
    rw [Int.toNat_natCast] at hal
    have hun := fun w1 (hb : Below w.heap.size w w1) => cut_ref A cap i w1 (h.below hb) hm hal hcap hcm
    rw [if_pos rfl, Int.toNat_natCast] at hR
    rw [hR] at hun
    clear hR hV hm h hcm
    go_enter Tryd.func26, Tryd.ntmps26
    go_wp2_with fail
    refine hc.mono ?_
    rintro e w1 ⟨rfl, hb⟩
    go_wp2_with fail
    refine (hun w1 hb).mono ?_
    rintro e w2 ⟨v, rfl, hown, hb2⟩
    have HO := Lib.hid hown
    clear hown
    go_wp2
    go_ret2
    exact ⟨_, rfl, own_base HO.out hb.size, hb.trans (hb2.mono hb.size)⟩
  · rw [if_neg h0] at hR
    subst hR
    have hneB : (V != 0) = true := bne_iff_ne.2 h0
    clear h0 hV h hcm
    go_enter Tryd.func26, Tryd.ntmps26
    go_wp2_with fail
    refine hc.mono ?_
    rintro e w1 ⟨rfl, hb⟩
    go_wp2
    go_ret2
    exact ⟨_, rfl, World.ownsRow_nil _ _ _ _, hb⟩
end Go.Proofs.YtmaefhnlipcmoaaDoor
