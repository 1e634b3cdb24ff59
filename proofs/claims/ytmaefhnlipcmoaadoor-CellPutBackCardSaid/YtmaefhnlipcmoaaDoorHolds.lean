/- provostlaw03.holds: what is put together holds the values. Conditions: lengths within the model's; Go's two tables of utf8. What is put together has the values as its subs, each under its name. Conditions: none. -/
import Derived.Test.YtmaefhnlipcmoaaDoorPartsL
namespace Go.Proofs.YtmaefhnlipcmoaaDoor
open Go.RowKit
theorem loop_window2 (v s : List Cel) (i k : Nat) {d : Nat} (ih : ∀ a e, bh v d (i + a) = some (i + e) → (s[k + a]?).map nameless = (v[i + a]?).map nameless → (∀ j, a < j → j < e → s[k + j]? = v[i + j]?) → bh s d (k + a) = some (k + e)) (K : Nat) :
    ∀ m a ns e, i + a ≤ v.length → loop (bh v d) v K m (i + a) ns = some (i + e) → (∀ j, a ≤ j → j < e → s[k + j]? = v[i + j]?) → loop (bh s d) s K m (k + a) ns = some (k + e)
  | 0, a, ns, e, _, h, _ => by
    simp only [loop, Option.some.injEq] at h ⊢
    omega
  | m + 1, a, ns, e, ha, h, hs => by
    have hg := loop_gt (bh_gt v d) K (m + 1) (i + a) ns (i + e) ha h
    have hsa := hs a (Nat.le_refl _) (by omega)
    unfold loop at h ⊢
    rw [hsa]
    cases hv : v[i + a]? with
    | none => rw [hv] at h; cases h
    | some c =>
      rw [hv] at h
      simp only at h ⊢
      split at h
      · rename_i hk
        rw [if_pos hk]
        cases hf : bh v d (i + a) with
        | none => rw [hf] at h; cases h
        | some nx =>
          rw [hf] at h
          simp only at h
          have g := bh_gt v d _ _ hf
          obtain ⟨x, rfl⟩ : ∃ x, nx = i + x := ⟨nx - i, by omega⟩
          have g2 := loop_gt (bh_gt v d) K m (i + x) _ (i + e) g.2 h
          rw [ih a x hf (by rw [hsa]) (fun j h1 h2 => hs j (by omega) (by omega))]
          exact loop_window2 v s i k ih K m x _ e g.2 h (fun j h1 h2 => hs j (by omega) (by omega))
      · cases h
theorem bh_window2 (v s : List Cel) (i k : Nat) : ∀ d a e, bh v d (i + a) = some (i + e) → (s[k + a]?).map nameless = (v[i + a]?).map nameless → (∀ j, a < j → j < e → s[k + j]? = v[i + j]?) → bh s d (k + a) = some (k + e)
  | 0, a, e, h, h0, _ => by
    unfold bh at h ⊢
    cases hv : v[i + a]? with
    | none => rw [hv] at h; cases h
    | some c =>
      obtain ⟨d, hd, h1, h2, h3⟩ := map_nameless h0 hv
      rw [hv] at h
      rw [hd]
      simp only at h ⊢
      rw [h1, h3]
      split at h
      · rename_i hc
        rw [if_pos hc]
        simp only [Option.some.injEq] at h ⊢
        omega
      · cases h
  | d + 1, a, e, h, h0, hs => by
    rw [bh] at h ⊢
    cases hv : v[i + a]? with
    | none => rw [hv] at h; cases h
    | some c =>
      obtain ⟨y, hd, h1, h2, h3⟩ := map_nameless h0 hv
      have hl := (List.getElem?_eq_some_iff.1 hv).1
      rw [hv] at h
      rw [hd]
      simp only at h ⊢
      rw [h1, h2, h3]
      split at h
      · rename_i hc
        rw [if_pos hc]
        split at h
        · rename_i hk
          rw [if_pos hk]
          exact loop_window2 v s i k (bh_window2 v s i k d) c.kind _ (a + 1) _ _ (by omega) h (fun j h1 h2 => hs j (by omega) h2)
        · rename_i hk
          rw [if_neg hk]
          simp only [Option.some.injEq] at h ⊢
          omega
      · cases h
/-- where the value of a number begins, in what is put together (behind the head) -/
def posB : List (List Cel) → Nat → Nat
  | [], _ => 0
  | _, 0 => 0
  | x :: r, j + 1 => x.length + posB r j
theorem posB_zero (xss : List (List Cel)) : posB xss 0 = 0 := by cases xss <;> rfl
theorem posB_succ : ∀ (xss : List (List Cel)) (j : Nat) (h : j < xss.length), posB xss (j + 1) = posB xss j + xss[j].length
  | [], j, h => by simp at h
  | x :: r, 0, h => by simp [posB, posB_zero]
  | x :: r, j + 1, h => by
    have := posB_succ r j (by simpa using h)
    simp only [posB, List.getElem_cons_succ] at this ⊢
    omega
theorem bodyF_get (nm : Nat → ByteArray) : ∀ (xss : List (List Cel)) (i j : Nat) (h : j < xss.length) (t : Nat), t < xss[j].length → (bodyF nm i xss)[posB xss j + t]? = (ren (nm (i + j)) xss[j])[t]?
  | [], i, j, h, t, _ => by simp at h
  | x :: r, i, 0, h, t, ht => by
    simp only [List.getElem_cons_zero] at ht
    rw [bodyF, posB_zero, Nat.zero_add, List.getElem?_append_left (by rw [ren_len]; exact ht)]
    rfl
  | x :: r, i, j + 1, h, t, ht => by
    simp only [List.getElem_cons_succ] at ht
    have := bodyF_get nm r (i + 1) j (by simpa using h) t ht
    rw [bodyF, posB, List.getElem?_append_right (by rw [ren_len]; omega), ren_len, show x.length + posB r j + t - x.length = posB r j + t by omega, this, List.getElem_cons_succ, show i + 1 + j = i + (j + 1) by omega]
def qB (xss : List (List Cel)) (j : Nat) : Nat := 1 + posB xss j
theorem putL_get (K : Nat) (nm : Nat → ByteArray) (xss : List (List Cel)) (j : Nat) (h : j < xss.length) (t : Nat) (ht : t < xss[j].length) : (putL K nm xss)[qB xss j + t]? = (ren (nm j) xss[j])[t]? := by
  have := bodyF_get nm xss 0 j h t ht
  rw [Nat.zero_add] at this
  rw [putL, qB, show 1 + posB xss j + t = (posB xss j + t) + 1 by omega, List.getElem?_cons_succ, this]
theorem ren_get0 {n : ByteArray} {x : List Cel} {c : Cel} (h : x[0]? = some c) : (ren n x)[0]? = some { c with name := n } := by
  cases x with
  | nil => simp at h
  | cons d r =>
    simp only [List.getElem?_cons_zero, Option.some.injEq] at h
    subst h
    rfl
theorem ren_getS {n : ByteArray} {x : List Cel} {t : Nat} (h : 0 < t) : (ren n x)[t]? = x[t]? := by
  cases x with
  | nil => rfl
  | cons d r => cases t with
    | zero => omega
    | succ t => rfl
theorem put_bh {K : Nat} {nm : Nat → ByteArray} {xss : List (List Cel)} {j : Nat} (h : j < xss.length) (hm : mayC xss[j] = true) : bh (putL K nm xss) 16 (qB xss j) = some (qB xss (j + 1)) := by
  have hp := mayC_pos hm
  obtain ⟨c, hc⟩ : ∃ c, xss[j][0]? = some c := ⟨xss[j][0], List.getElem?_eq_getElem hp⟩
  have := bh_window2 xss[j] (putL K nm xss) 0 (qB xss j) 16 0 xss[j].length (by rw [Nat.zero_add, Nat.zero_add]; exact mayC_bh hm)
    (by rw [putL_get K nm xss j h 0 hp, ren_get0 hc, Nat.zero_add, hc]; rfl) (fun t h1 h2 => by rw [putL_get K nm xss j h t h2, ren_getS h1, Nat.zero_add])
  rw [Nat.add_zero] at this
  rw [this, qB, qB, posB_succ xss j h, Nat.add_assoc]
theorem put_end {K : Nat} {nm : Nat → ByteArray} {xss : List (List Cel)} {j : Nat} (h : j < xss.length) (hm : mayC xss[j] = true) : endN (putL K nm xss) (qB xss j) = qB xss (j + 1) := by
  rw [endN, put_bh h hm]
  rfl
theorem may_name {x : List Cel} (hm : mayC x = true) {c : Cel} (h : x[0]? = some c) : c.name = e0 := by
  unfold mayC at hm
  simp only [Bool.and_eq_true, decide_eq_true_eq, h] at hm
  exact hm.1.2
/-- THE LAW: the sub at a value's place is the value -/
theorem put_sub_at {K : Nat} {nm : Nat → ByteArray} {xss : List (List Cel)} {j : Nat} (h : j < xss.length) (hm : mayC xss[j] = true) : subL (putL K nm xss) (qB xss j) = xss[j] := by
  have he := put_end (K := K) (nm := nm) h hm
  have hq : qB xss (j + 1) - qB xss j = xss[j].length := by rw [qB, qB, posB_succ xss j h]; omega
  have hd : ((putL K nm xss).drop (qB xss j)).take (qB xss (j + 1) - qB xss j) = ren (nm j) xss[j] := by
    rw [hq]
    apply List.ext_getElem?
    intro t
    rw [List.getElem?_take]
    by_cases ht : t < xss[j].length
    · rw [if_pos ht, List.getElem?_drop, putL_get K nm xss j h t ht]
    · rw [if_neg ht, List.getElem?_eq_none (by rw [ren_len]; omega)]
  unfold subL
  rw [he, hd]
  cases hx : xss[j] with
  | nil => rfl
  | cons c r =>
    have := may_name hm (c := c) (by rw [hx]; rfl)
    simp only [ren, bare]
    congr 1
    cases c
    simp only at this
    subst this
    rfl
theorem put_iter {K : Nat} {nm : Nat → ByteArray} {xss : List (List Cel)} (hall : ∀ j (h : j < xss.length), mayC xss[j] = true) : ∀ j, j ≤ xss.length → qk (putL K nm xss) 0 j = qB xss j
  | 0, _ => by rw [qk_zero, qB, posB_zero]
  | j + 1, hj => by
    have ih := put_iter (K := K) (nm := nm) hall j (by omega)
    unfold qk at ih ⊢
    rw [iterE_succ, ih, put_end (by omega) (hall j (by omega))]
theorem put_kids {K : Nat} {nm : Nat → ByteArray} {xss : List (List Cel)} : (kidL (putL K nm xss) 0).length = xss.length := by
  rw [kid_len (c := headC K xss.length) rfl]
  simp [headC]
theorem put_name {K : Nat} {nm : Nat → ByteArray} {xss : List (List Cel)} {j : Nat} (h : j < xss.length) (hm : mayC xss[j] = true) : nameAt (putL K nm xss) (qB xss j) = nm j := by
  have hp := mayC_pos hm
  obtain ⟨c, hc⟩ : ∃ c, xss[j][0]? = some c := ⟨xss[j][0], List.getElem?_eq_getElem hp⟩
  have := putL_get K nm xss j h 0 hp
  rw [Nat.add_zero, ren_get0 hc] at this
  rw [nameAt, this]
theorem loop_names {v : List Cel} {d : Nat} (hd : d ≤ 16) : ∀ m q ns e, loop (bh v d) v 7 m q ns = some e → (∀ j, j < m → ns.any (fun x => decide (x = nameAt v (iterE v j q))) = false) ∧ ∀ j, j < m → ∀ t, t < j → nameAt v (iterE v t q) ≠ nameAt v (iterE v j q)
  | 0, q, ns, e, _ => ⟨fun j hj => by omega, fun j hj => by omega⟩
  | m + 1, q, ns, e, h => by
    unfold loop at h
    cases hv : v[q]? with
    | none => rw [hv] at h; cases h
    | some c =>
      rw [hv] at h
      simp only at h
      split at h
      · rename_i hk
        cases hf : bh v d q with
        | none => rw [hf] at h; cases h
        | some nx =>
          rw [hf] at h
          simp only at h
          have hb := bh_mono v hd hf
          have hen : endN v q = nx := by rw [endN, hb]; rfl
          have hnq : nameAt v q = c.name := by rw [nameAt, hv]
          obtain ⟨i1, i2⟩ := loop_names hd m nx _ e h
          have hns : ns.any (fun x => decide (x = c.name)) = false := by
            rw [kidOk, if_neg (by omega)] at hk
            simpa using (Bool.and_eq_true_iff.1 hk).2
          refine ⟨fun j hj => ?_, fun j hj t ht => ?_⟩
          · cases j with
            | zero => rw [iterE, hnq]; exact hns
            | succ j =>
              rw [iterE, hen]
              have := i1 j (by omega)
              rw [List.any_cons, Bool.or_eq_false_iff] at this
              exact this.2
          · cases j with
            | zero => omega
            | succ j =>
              rw [iterE, hen]
              cases t with
              | zero =>
                rw [iterE, hnq]
                have := i1 j (by omega)
                rw [List.any_cons, Bool.or_eq_false_iff] at this
                simpa using this.1
              | succ t =>
                rw [iterE, hen]
                exact i2 j (by omega) t (by omega)
      · cases h
theorem find_at {α : Type} {p : α → Bool} : ∀ (l : List α) (j : Nat) (h : j < l.length), p l[j] = true → (∀ t (ht : t < l.length), t < j → p l[t] = false) → l.find? p = some l[j]
  | [], j, h, _, _ => by simp at h
  | x :: r, 0, h, hp, _ => by
    have h0 : p x = true := hp
    rw [List.find?_cons_of_pos h0]
    rfl
  | x :: r, j + 1, h, hp, hn => by
    have h0 : p x = false := hn 0 (by simp) (by omega)
    have h1 : j < r.length := by simpa using h
    have := find_at r j h1 hp (fun t ht htj => hn (t + 1) (by simp; omega) (by omega))
    rw [List.find?_cons_of_neg (by simp [h0]), this]
    rfl
theorem put_member {nm : Nat → ByteArray} {xss : List (List Cel)} (hm : mayC (putL 7 nm xss) = true) (hall : ∀ j (h : j < xss.length), mayC xss[j] = true) {j : Nat} (h : j < xss.length) : memR (putL 7 nm xss) 0 (nm j) = some (qB xss j) := by
  have hil : 0 < (putL 7 nm xss).length := mayC_pos hm
  have hb := (may_ends hm hil).1
  have hc : (putL 7 nm xss)[0]? = some (headC 7 xss.length) := rfl
  have ho : oneC (headC 7 xss.length) = true := by
    cases h : oneC (headC 7 xss.length) with
    | true => rfl
    | false => rw [bh_bad hc h] at hb; cases hb
  have hb2 := hb
  rw [bh_nest hc ho (.inr rfl) 15] at hb2
  obtain ⟨_, hdist⟩ := loop_names (by omega) _ _ _ _ hb2
  have hmm : (headC 7 xss.length).many.toNat = xss.length := by simp [headC]
  rw [hmm] at hdist
  have hkl := put_kids (K := 7) (nm := nm) (xss := xss)
  have hkg : ∀ t (ht : t < (kidL (putL 7 nm xss) 0).length), (kidL (putL 7 nm xss) 0)[t] = qB xss t := fun t ht => by rw [kid_get ht, put_iter hall t (by omega)]
  have hja : j < (kidL (putL 7 nm xss) 0).length := by omega
  have e1 : askedC (putL 7 nm xss) 0 = 0 := askedC_at hm hil
  have e2 : kindAt (putL 7 nm xss) (0 : Int).toNat = 7 := rfl
  rw [memR, if_pos ⟨e1, e2⟩, show (0 : Int).toNat = 0 from rfl, find_at _ j hja (by rw [hkg j hja, isNm, put_name h (hall j h)]; simp) (fun t ht htj => by
    rw [hkg t ht, isNm, put_name (by omega) (hall t (by omega))]
    have := hdist j h t htj
    have q1 := put_iter (K := 7) (nm := nm) hall t (by omega)
    have q2 := put_iter (K := 7) (nm := nm) hall j (by omega)
    unfold qk at q1 q2
    rw [Nat.zero_add] at this q1 q2
    rw [q1, q2, put_name (by omega) (hall t (by omega)), put_name h (hall j h)] at this
    simpa using this), hkg j hja]
open Go.RowKit
theorem kidsR_at2 {xs : List Cel} (hm : mayC xs = true) {q : Nat} (hq : q < xs.length) : kidsR xs (q : Int) = (kidL xs q).map Int.ofNat := by
  rw [kidsR, askedC_at hm hq, if_pos rfl, Int.toNat_natCast]
theorem kid_cellB {w : World} {B i j : Nat} {A : Option Addr} {xs : List Cel} (h : Rd w B A (iv ((kidL xs i).map Int.ofNat))) (hj : j < (kidL xs i).length) : ∃ b off, A = some ⟨b, off, none⟩ ∧ b < B ∧ w.cell? ⟨b, off + j, none⟩ = some (.int .i64 (qk xs i j : Nat)) := by
  have hl : j < (iv ((kidL xs i).map Int.ofNat)).length := by rw [iv_len, List.length_map]; exact hj
  obtain ⟨b, off, rfl, hb, hc⟩ := h.at' hl
  refine ⟨b, off, rfl, hb, ?_⟩
  rw [hc j hl]
  simp only [iv, List.getElem_map, kid_get hj]
  rfl
theorem str_cell {w : World} {B j : Nat} {A : Option Addr} {ns : List ByteArray} (h : Rd w B A (sv ns)) (hj : j < ns.length) : ∃ b off, A = some ⟨b, off, none⟩ ∧ b < B ∧ w.cell? ⟨b, off + j, none⟩ = some (.string (nmL ns j)) := by
  have hl : j < (sv ns).length := by rw [sv_len]; exact hj
  obtain ⟨b, off, rfl, hb, hc⟩ := h.at' hl
  refine ⟨b, off, rfl, hb, ?_⟩
  rw [hc j hl]
  simp only [sv, List.getElem_map, nmL, List.getD_eq_getElem?_getD, List.getElem?_eq_getElem hj, Option.getD_some]
set_option maxRecDepth 100000 in
set_option maxHeartbeats 4000000 in
theorem holds_any (K : Nat) (nm : Nat → ByteArray) {xss : List (List Cel)} {P : List Cel} (hP : putL K nm xss = P) (Av A An : Option Addr) (cv0 c cn : Nat) (ns : List ByteArray) (w : World) {B1 B2 B3 : Nat} (hIn : In P Av w B1) (hcap : P.length ≤ cv0) (hcm : cv0 ≤ maxLen)
    (hx : Sets w B2 A xss) (hB2 : B2 ≤ w.heap.size) (hn : Rd w B3 An (sv ns)) (hB3 : B3 ≤ w.heap.size) (hm : mayC P = true) (hall : ∀ j (h : j < xss.length), mayC xss[j] = true) (hns : ns.length = 0 ∨ (K = 7 ∧ nm = nmL ns ∧ ns.length = xss.length)) :
    Calls Tryd.prog 32 #[.slice Av P.length cv0, .slice A xss.length c, .slice An ns.length cn] w fun e w' => e = .returned (.bool true) ∧ Below w.heap.size w w' := by
  obtain ⟨m, hml⟩ : ∃ m, xss.length = m := ⟨_, rfl⟩
  have hil : 0 < P.length := mayC_pos hm
  have hpl := mayC_len hm
  have hkl : ((kidL P 0).map Int.ofNat).length = m := by rw [List.length_map, ← hP, put_kids, hml]
  have c1 := kids_any Av cv0 (0 : Nat) w hIn (.inl hpl)
  rw [kidsR_at2 hm hil, askedC_at hm hil, hkl] at c1
  have hmx : m ≤ 2048 := by
    have := kids_len hm hil
    rw [List.length_map] at hkl
    omega
  have F := Lib.hid (And.intro hm (And.intro hall (And.intro hml (And.intro hkl (And.intro hP hil)))))
  have HIN := Lib.hid hIn
  have HX := Lib.hid hx
  have HN := Lib.hid hn
  have HC := Lib.hid (And.intro hcap hcm)
  obtain ⟨nl, hnl⟩ : ∃ nl, ns.length = nl := ⟨_, rfl⟩
  have HNS := Lib.hid hns
  have HNL := Lib.hid hnl
  rw [hml, hnl]
  clear hm hall hml hkl hP hil hIn hx hn hcap hcm hns hnl
  go_enter Tryd.func32, Tryd.ntmps32
  go_wp2_with fail
  refine c1.mono ?_
  rintro e w1 ⟨v, rfl, hok, hb1⟩
  obtain ⟨Ak, ck, rfl, _, _⟩ := own_slice hok
  have HOK := Lib.hid hok
  clear hok c1
  have c2 := check_any2 Av cv0 w1 (HIN.out.below hb1)
  rw [show checkC P = 0 by rw [checkC, F.out.1]; rfl] at c2
  have hmmI : ((m : Int) != m) = false := by simp
  go_wp2_with fail
  refine c2.mono ?_
  rintro e w2 ⟨rfl, hb2⟩
  clear c2
  have b2 := hb1.trans (hb2.mono hb1.size)
  go_wp2
  go_loopw [9] (fun vi wr => ∃ j : Nat, j ≤ m ∧ vi = .int .i64 j ∧ Below w2.heap.size w2 wr) (fun vi _ => m - (intOf vi).toNat)
  case atStart => exact ⟨0, Nat.zero_le _, rfl, Below.refl _ _⟩
  case round =>
    obtain ⟨j, hj, rfl, hbr⟩ := hrel
    have hbrs := hbr.size
    by_cases hlt : j < m
    · obtain ⟨hm, hall, hml, hkl, hP, hil⟩ := F.out
      have hjx : j < xss.length := by omega
      have hjl : j < (kidL P 0).length := by rw [List.length_map] at hkl; omega
      have hqk : qk P 0 j = qB xss j := by rw [← hP]; exact put_iter hall j (by omega)
      have hrk : ∀ W, Below w2.heap.size w2 W → Rd W w1.heap.size Ak (iv ((kidL P 0).map Int.ofNat)) := fun W q => ((Rd.of_own HOK.out).thru hb2 (Nat.le_refl _)).thru q hb2.size
      obtain ⟨bk, ok, hAk, hbk, _⟩ := kid_cellB (hrk w2 (Below.refl _ _)) hjl
      subst hAk
      have hkc : ∀ W, Below w2.heap.size w2 W → W.cell? ⟨bk, ok + j, none⟩ = some (.int .i64 (qB xss j : Nat)) := fun W q => by
        obtain ⟨b', o', e', _, h'⟩ := kid_cellB (hrk W q) hjl
        simp only [Option.some.injEq, Addr.mk.injEq, and_true] at e'
        obtain ⟨rfl, rfl⟩ := e'
        rw [← hqk]
        exact h'
      have hq1 : qB xss j < P.length := by
        have := bh_gt P 16 _ _ (hP ▸ put_bh (K := K) (nm := nm) hjx (hall j hjx))
        omega
      have s1 := sub_any Av cv0 (qB xss j : Nat) wr (HIN.out.below (b2.trans (hbr.mono b2.size))) HC.out.1 HC.out.2
      have hsx : subR P (qB xss j : Nat) = xss[j] := by
        rw [subR, askedC_at hm hq1, if_pos rfl, Int.toNat_natCast, ← hP]
        exact put_sub_at hjx (hall j hjx)
      rw [hsx, askedC_at hm hq1] at s1
      obtain ⟨bx, ox, A', c', hA, hbx, hcx, hrd⟩ := (HX.out.thru (b2.trans (hbr.mono b2.size)) hB2).at' hjx
      subst hA
      have hxl := mayC_len (hall j hjx)
      have hcx' : ∀ W, Below wr.heap.size wr W → W.cell? ⟨bx, ox + j, none⟩ = some (.slice A' xss[j].length c') := fun W q => (q.cell (p := ⟨bx, ox + j, none⟩) (by have := b2.size; show bx < wr.heap.size; omega)).trans hcx
      have hmem : nl = 0 ∨ (0 < nl ∧ nl = m ∧ memR P (0 : Nat) (nmL ns j) = some (qB xss j)) := by
        rcases HNS.out with h | ⟨h1, h2, h3⟩
        · left; rw [← HNL.out]; exact h
        · right
          rw [HNL.out] at h3
          refine ⟨by omega, by omega, ?_⟩
          subst h1
          subst h2
          rw [← hP]
          exact put_member (hP ▸ hm) hall hjx
      obtain ⟨x, hxe⟩ : ∃ x, xss[j] = x := ⟨_, rfl⟩
      obtain ⟨q, hqe⟩ : ∃ q, qB xss j = q := ⟨_, rfl⟩
      simp only [hxe, hqe] at hkc s1 hcx hcx' hrd hxl hmem
      have hkr := hkc wr hbr
      have hjI : (j : Int) < m := by omega
      have HKC := Lib.hid hkc
      have HCX := Lib.hid hcx'
      have HRD := Lib.hid hrd
      clear hm hall hml hkl hP hil hqk hrk hkc hsx hcx hcx' hrd hxe hqe
      go_wp2_with fail
      refine s1.mono ?_
      rintro e u1 ⟨vx, rfl, hox, hd1⟩
      clear s1
      obtain ⟨Ax, cx, rfl, _, _⟩ := own_slice hox
      have d1 := hbr.trans (hd1.mono hbrs)
      have hc1 := HCX.out u1 hd1
      have wrs : w.heap.size ≤ wr.heap.size := Nat.le_trans b2.size hbrs
      have s2 := same_ref Ax A' cx c' u1 (rd_ofK2 hox) (HRD.out.thru hd1 (by omega)) (Nat.le_refl _) (by have := hd1.size; omega) (by omega)
      rw [sameC_self] at s2
      clear hox hkr
      rcases hmem with hn0 | ⟨hn1, hn2, hmm⟩
      · have hnI : ¬ 0 < nl := by omega
        have hnJ : ¬ (0 : Int) < nl := by omega
        clear hn0
        go_wp2_with fail
        refine s2.mono ?_
        rintro e u2 ⟨rfl, hd2⟩
        have d2 := d1.trans (hd2.mono d1.size)
        clear s2
        go_wp2
        go_roundw
        case rel => exact ⟨j + 1, hlt, by go_num, d2⟩
        case measure => simp [intOf]; omega
      · have hnI : (0 : Int) < nl := by omega
        have hjn : (j : Int) < nl := by omega
        have hjns : j < ns.length := by rw [HNL.out]; omega
        clear hn2 hn1
        go_wp2_with fail
        refine s2.mono ?_
        rintro e u2 ⟨rfl, hd2⟩
        have d2 := d1.trans (hd2.mono d1.size)
        clear s2
        have bu2 := b2.trans (d2.mono b2.size)
        obtain ⟨bn, on, hAn, _, hsn⟩ := str_cell (HN.out.thru bu2 hB3) hjns
        subst hAn
        have s3 := member_any Av cv0 (0 : Nat) (nmL ns j) u2 (HIN.out.below bu2)
        rw [hmm] at s3
        go_wp2_with fail
        refine s3.mono ?_
        rintro e u3 ⟨rfl, hd3⟩
        have d3 := d2.trans (hd3.mono d2.size)
        have hk3 := HKC.out u3 d3
        clear s3 hmm
        go_wp2
        go_roundw
        case rel => exact ⟨j + 1, hlt, by go_num, d3⟩
        case measure => simp [intOf]; omega
    · have hjm : m = j := by omega
      subst hjm
      have hltd : decide ((m : Int) < m) = false := by simp
      go_wp2
      go_ret
      exact ⟨rfl, b2.trans (hbr.mono b2.size)⟩
end Go.Proofs.YtmaefhnlipcmoaaDoor
