/- A value's parts, in plain words: where they stand, and that they are put together again. Conditions: none. cell.Items, Members. Conditions: lengths within the model's; Go's two tables of utf8. cell.put, Items, Members: values put together. Conditions: lengths within the model's; Go's two tables of utf8. What cell.Items, Members put together, in plain words; subs put together again. Conditions: none. -/
import Derived.Test.YtmaefhnlipcmoaaDoorFnU
import Derived.Test.YtmaefhnlipcmoaaDoorAppK
namespace Go.Proofs.YtmaefhnlipcmoaaDoor
def ren (n : ByteArray) : List Cel → List Cel
  | [] => []
  | c :: r => { c with name := n } :: r
def bodyF (nm : Nat → ByteArray) : Nat → List (List Cel) → List Cel
  | _, [] => []
  | i, x :: r => ren (nm i) x ++ bodyF nm (i + 1) r
def headC (K : Nat) (n : Nat) : Cel := ⟨K, e0, e0, 0, n⟩
def putL (K : Nat) (nm : Nat → ByteArray) (xss : List (List Cel)) : List Cel := headC K xss.length :: bodyF nm 0 xss
theorem ren_len (n : ByteArray) (xs : List Cel) : (ren n xs).length = xs.length := by cases xs <;> rfl
theorem bodyF_snoc (nm : Nat → ByteArray) (x : List Cel) : ∀ (xss : List (List Cel)) (i : Nat), bodyF nm i (xss ++ [x]) = bodyF nm i xss ++ ren (nm (i + xss.length)) x
  | [], i => by simp [bodyF]
  | y :: r, i => by
    rw [List.cons_append, bodyF, bodyF_snoc nm x r (i + 1), bodyF, List.append_assoc, List.length_cons, show i + 1 + r.length = i + (r.length + 1) by omega]
theorem bodyF_take (nm : Nat → ByteArray) (xss : List (List Cel)) (k : Nat) (h : k < xss.length) : bodyF nm 0 (xss.take (k + 1)) = bodyF nm 0 (xss.take k) ++ ren (nm k) xss[k] := by
  rw [List.take_succ_eq_append_getElem h, bodyF_snoc, List.length_take, Nat.zero_add, Nat.min_eq_left (Nat.le_of_lt h)]
theorem bodyF_len_le (nm : Nat → ByteArray) (M : Nat) : ∀ (xss : List (List Cel)) (i : Nat), (∀ x ∈ xss, x.length ≤ M) → (bodyF nm i xss).length ≤ xss.length * M
  | [], i, _ => by simp [bodyF]
  | x :: r, i, h => by
    rw [bodyF, List.length_append, ren_len, List.length_cons, Nat.succ_mul]
    have h1 := h x (by simp)
    have h2 := bodyF_len_le nm M r (i + 1) (fun y hy => h y (by simp [hy]))
    omega
/-- a place's answer is that of the place alone -/
def nameless (c : Cel) : Cel := { c with name := e0 }
theorem oneC_nameless (c : Cel) : oneC (nameless c) = oneC c := rfl
theorem loop_window (v s : List Cel) (i : Nat) {d : Nat} (ih : ∀ a e, bh v d (i + a) = some (i + e) → (s[a]?).map nameless = (v[i + a]?).map nameless → (∀ j, a < j → j < e → s[j]? = v[i + j]?) → bh s d a = some e) (K : Nat) :
    ∀ m a ns e, i + a ≤ v.length → loop (bh v d) v K m (i + a) ns = some (i + e) → (∀ j, a ≤ j → j < e → s[j]? = v[i + j]?) → loop (bh s d) s K m a ns = some e
  | 0, a, ns, e, _, h, _ => by
    simp only [loop, Option.some.injEq] at h ⊢
    omega
  | m + 1, a, ns, e, ha, h, hs => by
    have hg := loop_gt (bh_gt v d) K (m + 1) (i + a) ns (i + e) ha h
    have hsa := hs a (Nat.le_refl _) (by omega)
    unfold loop at h ⊢
    rw [hsa]
    cases hv : v[i + a]? with
    | none => rw [hv] at h; cases h
    | some c =>
      rw [hv] at h
      simp only at h ⊢
      split at h
      · rename_i hk
        rw [if_pos hk]
        cases hf : bh v d (i + a) with
        | none => rw [hf] at h; cases h
        | some nx =>
          rw [hf] at h
          simp only at h
          have g := bh_gt v d _ _ hf
          obtain ⟨x, rfl⟩ : ∃ x, nx = i + x := ⟨nx - i, by omega⟩
          have g2 := loop_gt (bh_gt v d) K m (i + x) _ (i + e) g.2 h
          rw [ih a x hf (by rw [hsa]) (fun j h1 h2 => hs j (by omega) (by omega))]
          exact loop_window v s i ih K m x _ e g.2 h (fun j h1 h2 => hs j (by omega) (by omega))
      · cases h
theorem map_nameless {x y : Option Cel} (h : x.map nameless = y.map nameless) {c : Cel} (hy : y = some c) : ∃ d, x = some d ∧ d.kind = c.kind ∧ d.many = c.many ∧ oneC d = oneC c := by
  subst hy
  cases x with
  | none => simp at h
  | some d =>
    simp only [Option.map_some, Option.some.injEq] at h
    refine ⟨d, rfl, ?_, ?_, ?_⟩
    · have := congrArg Cel.kind h; exact this
    · have := congrArg Cel.many h; exact this
    · rw [← oneC_nameless d, ← oneC_nameless c, h]
theorem bh_window (v s : List Cel) (i : Nat) : ∀ d a e, bh v d (i + a) = some (i + e) → (s[a]?).map nameless = (v[i + a]?).map nameless → (∀ j, a < j → j < e → s[j]? = v[i + j]?) → bh s d a = some e
  | 0, a, e, h, h0, _ => by
    unfold bh at h ⊢
    cases hv : v[i + a]? with
    | none => rw [hv] at h; cases h
    | some c =>
      obtain ⟨d, hd, h1, h2, h3⟩ := map_nameless h0 hv
      rw [hv] at h
      rw [hd]
      simp only at h ⊢
      rw [h1, h3]
      split at h
      · rename_i hc
        rw [if_pos hc]
        simp only [Option.some.injEq] at h ⊢
        omega
      · cases h
  | d + 1, a, e, h, h0, hs => by
    rw [bh] at h ⊢
    cases hv : v[i + a]? with
    | none => rw [hv] at h; cases h
    | some c =>
      obtain ⟨y, hd, h1, h2, h3⟩ := map_nameless h0 hv
      have hl := (List.getElem?_eq_some_iff.1 hv).1
      rw [hv] at h
      rw [hd]
      simp only at h ⊢
      rw [h1, h2, h3]
      split at h
      · rename_i hc
        rw [if_pos hc]
        split at h
        · rename_i hk
          rw [if_pos hk]
          exact loop_window v s i (bh_window v s i d) c.kind _ (a + 1) _ _ (by omega) h (fun j h1 h2 => hs j (by omega) h2)
        · rename_i hk
          rw [if_neg hk]
          simp only [Option.some.injEq] at h ⊢
          omega
      · cases h
theorem subL_get {v : List Cel} {i n : Nat} (hn : endN v i = n) {j : Nat} (h0 : 0 < j) (hj : j < n - i) : (subL v i)[j]? = v[i + j]? := by
  unfold subL
  rw [hn]
  have h1 : ∀ l : List Cel, (bare l)[j]? = l[j]? := by
    intro l
    cases l with
    | nil => rfl
    | cons c r => cases j with
      | zero => omega
      | succ j => rfl
  rw [h1, List.getElem?_take, if_pos hj, List.getElem?_drop]
theorem subL_get0 {v : List Cel} {i n : Nat} (hn : endN v i = n) (h : i < n) {c : Cel} (hc : v[i]? = some c) : (subL v i)[0]? = some (nameless c) := by
  unfold subL
  rw [hn]
  have : ((v.drop i).take (n - i))[0]? = some c := by rw [List.getElem?_take, if_pos (by omega), List.getElem?_drop, Nat.add_zero, hc]
  cases hl : (v.drop i).take (n - i) with
  | nil => rw [hl] at this; cases this
  | cons d r =>
    rw [hl] at this
    simp only [List.getElem?_cons_zero, Option.some.injEq] at this
    subst this
    rfl
theorem subL_len {v : List Cel} {i n : Nat} (hn : endN v i = n) (h : n ≤ v.length) : (subL v i).length = n - i := by
  unfold subL
  rw [hn, bare_len, List.length_take, List.length_drop]
  omega
/-- a value's part is a value -/
theorem sub_may {v : List Cel} {i n : Nat} (hb : bh v 16 i = some n) (hl : v.length ≤ 2048) : mayC (subL v i) = true := by
  have hn : endN v i = n := by rw [endN, hb]; rfl
  have hg := bh_gt v 16 i n hb
  obtain ⟨c, hc⟩ : ∃ c, v[i]? = some c := ⟨v[i], List.getElem?_eq_getElem (by omega)⟩
  have h0 := subL_get0 hn hg.1 hc
  have hlen := subL_len hn hg.2
  unfold mayC
  rw [h0, hlen]
  simp only [Bool.and_eq_true, decide_eq_true_eq]
  refine ⟨⟨⟨by omega, by omega⟩, rfl⟩, ?_⟩
  refine bh_window v (subL v i) i 16 0 (n - i) (by rw [Nat.add_zero, show i + (n - i) = n by omega]; exact hb) (by rw [h0, Nat.add_zero, hc]; rfl) (fun j h1 h2 => subL_get hn h1 h2)
theorem sub_check {v : List Cel} {i n : Nat} (hb : bh v 16 i = some n) (hl : v.length ≤ 2048) : checkC (subL v i) = 0 := by
  rw [checkC, sub_may hb hl]
  rfl
theorem ren_bare (n : ByteArray) (l : List Cel) (h : ∀ c, l[0]? = some c → c.name = n) : ren n (bare l) = l := by
  cases l with
  | nil => rfl
  | cons c r =>
    have := h c rfl
    subst this
    rfl
theorem take_parts (v : List Cel) {q n e : Nat} (h1 : q ≤ n) (h2 : n ≤ e) : (v.drop q).take (n - q) ++ (v.drop n).take (e - n) = (v.drop q).take (e - q) := by
  have : e - q = (n - q) + (e - n) := by omega
  rw [this, List.take_add, List.drop_drop, show q + (n - q) = n by omega]
theorem body_parts {v : List Cel} (nm : Nat → ByteArray) : ∀ (m q i : Nat), (∀ j, j < m → ∃ n, bh v 16 (iterE v j q) = some n ∧ nm (i + j) = nameAt v (iterE v j q)) →
    bodyF nm i ((kidsN v m q).map (subL v)) = (v.drop q).take (iterE v m q - q) ∧ q ≤ iterE v m q
  | 0, q, i, _ => by simp [kidsN, bodyF, iterE]
  | m + 1, q, i, h => by
    obtain ⟨n, hb, hnm⟩ := h 0 (by omega)
    simp only [iterE, Nat.add_zero] at hb hnm
    have hn : endN v q = n := by rw [endN, hb]; rfl
    have hg := bh_gt v 16 q n hb
    obtain ⟨ih1, ih2⟩ := body_parts nm m n (i + 1) (fun j hj => by
      obtain ⟨n', a1, a2⟩ := h (j + 1) (by omega)
      rw [iterE, hn] at a1 a2
      exact ⟨n', a1, by rw [← a2]; congr 1; omega⟩)
    rw [kidsN, hn, List.map_cons, bodyF, ih1, iterE, hn]
    refine ⟨?_, by omega⟩
    have hsub : ren (nm i) (subL v q) = (v.drop q).take (n - q) := by
      unfold subL
      rw [hn]
      refine ren_bare _ _ fun c hc => ?_
      rw [List.getElem?_take, if_pos (by omega), List.getElem?_drop, Nat.add_zero] at hc
      rw [hnm, nameAt, hc]
    rw [hsub]
    exact take_parts v (by omega) ih2
theorem oneC_nest {c : Cel} (h : oneC c = true) (hk : c.kind = 6 ∨ c.kind = 7) : c.text = e0 ∧ c.num = 0 ∧ 0 ≤ c.many := by
  unfold oneC at h
  rw [if_neg (by omega), if_neg (by omega), if_neg (by omega), if_neg (by omega), if_neg (by omega), if_pos hk] at h
  simp only [Bool.and_eq_true, decide_eq_true_eq] at h
  exact ⟨h.1.1, h.1.2, h.2⟩
/-- THE LAW: a value's subs, put together, are the value -/
theorem parts_put {v : List Cel} {i n : Nat} (hb : bh v 16 i = some n) {c : Cel} (hc : v[i]? = some c) (hk : c.kind = 6 ∨ c.kind = 7) (nm : Nat → ByteArray)
    (hall : ∀ j, j < c.many.toNat → ∃ e, bh v 16 (iterE v j (i + 1)) = some e ∧ nm j = nameAt v (iterE v j (i + 1))) :
    putL c.kind nm ((kidL v i).map (subL v)) = subL v i := by
  have hn : endN v i = n := by rw [endN, hb]; rfl
  have hg := bh_gt v 16 i n hb
  have hkf := kids_facts hc hb
  have ho : oneC c = true := by
    cases h : oneC c with
    | true => rfl
    | false => rw [bh_bad hc h] at hb; cases hb
  obtain ⟨o1, o2, o3⟩ := oneC_nest ho hk
  have hkl : kidL v i = kidsN v c.many.toNat (i + 1) := by rw [kidL, hc]
  have hbp := (body_parts nm c.many.toNat (i + 1) 0 (fun j hj => by rw [Nat.zero_add]; exact hall j hj)).1
  rw [hkf.1] at hbp
  have hil : i < v.length := (List.getElem?_eq_some_iff.1 hc).1
  have hvi : v[i] = c := by
    have := List.getElem?_eq_getElem hil
    rw [this] at hc
    exact Option.some.inj hc
  unfold putL
  rw [hkl, hbp, List.length_map, kidsN_len]
  unfold subL
  rw [hn, List.drop_eq_getElem_cons hil, hvi, show n - i = (n - (i + 1)) + 1 by omega, List.take_succ_cons]
  unfold bare headC
  cases c with
  | mk k nme t nu mn =>
    simp only at o1 o2 o3 ⊢
    subst o1
    subst o2
    rw [show ((mn.toNat : Nat) : Int) = mn by omega]
theorem loop_kids {v : List Cel} {d : Nat} (hd : d ≤ 16) (K : Nat) : ∀ m q ns e, loop (bh v d) v K m q ns = some e → ∀ j, j < m → ∃ n, bh v 16 (iterE v j q) = some n ∧ (K = 6 → nameAt v (iterE v j q) = e0)
  | 0, q, ns, e, _, j, hj => by omega
  | m + 1, q, ns, e, h, j, hj => by
    unfold loop at h
    cases hv : v[q]? with
    | none => rw [hv] at h; cases h
    | some c =>
      rw [hv] at h
      simp only at h
      split at h
      · rename_i hk
        cases hf : bh v d q with
        | none => rw [hf] at h; cases h
        | some nx =>
          rw [hf] at h
          simp only at h
          have hb := bh_mono v hd hf
          cases j with
          | zero =>
            refine ⟨nx, hb, fun hK => ?_⟩
            rw [iterE, nameAt, hv]
            rw [kidOk, if_pos hK] at hk
            simpa using hk
          | succ j =>
            rw [iterE, show endN v q = nx by rw [endN, hb]; rfl]
            exact loop_kids hd K m nx _ e h j (by omega)
      · cases h
theorem kids_names {v : List Cel} {i n : Nat} (hb : bh v 16 i = some n) {c : Cel} (hc : v[i]? = some c) (j : Nat) (hj : j < c.many.toNat) : ∃ e, bh v 16 (iterE v j (i + 1)) = some e ∧ (c.kind = 6 → nameAt v (iterE v j (i + 1)) = e0) := by
  have ho : oneC c = true := by
    cases h : oneC c with
    | true => rfl
    | false => rw [bh_bad hc h] at hb; cases hb
  by_cases hk : nest c
  · rw [bh_nest hc ho hk 15] at hb
    exact loop_kids (by omega) _ _ _ _ _ hb j hj
  · have hm := oneC_leaf ho hk
    rw [hm] at hj
    simp at hj
open Go.RowKit
/-- values, in blocks below B -/
def Sets (w : World) (B : Nat) (A : Option Addr) (xss : List (List Cel)) : Prop :=
  xss = [] ∨ ∃ b off, A = some ⟨b, off, none⟩ ∧ b < B ∧ ∀ (k : Nat) (h : k < xss.length), ∃ A' c, w.cell? ⟨b, off + k, none⟩ = some (.slice A' xss[k].length c) ∧ Rd w B A' (cv xss[k])
theorem Sets.at' {w : World} {B : Nat} {A : Option Addr} {xss : List (List Cel)} (h : Sets w B A xss) {k : Nat} (hk : k < xss.length) :
    ∃ b off A' c, A = some ⟨b, off, none⟩ ∧ b < B ∧ w.cell? ⟨b, off + k, none⟩ = some (.slice A' xss[k].length c) ∧ Rd w B A' (cv xss[k]) := by
  rcases h with rfl | ⟨b, off, e, hb, h⟩
  · simp at hk
  · obtain ⟨A', c, h1, h2⟩ := h k hk
    exact ⟨b, off, A', c, e, hb, h1, h2⟩
theorem Sets.thru {w w' : World} {B B' : Nat} {A : Option Addr} {xss : List (List Cel)} (h : Sets w B A xss) (hb : Below B' w w') (hB : B ≤ B') : Sets w' B A xss := by
  rcases h with rfl | ⟨b, off, e, hl, h⟩
  · exact .inl rfl
  · refine .inr ⟨b, off, e, hl, fun k hk => ?_⟩
    obtain ⟨A', c, h1, h2⟩ := h k hk
    exact ⟨A', c, (hb.cell (p := ⟨b, off + k, none⟩) (by show b < B'; omega)).trans h1, h2.thru hb hB⟩
theorem Sets.mono {w : World} {B B' : Nat} {A : Option Addr} {xss : List (List Cel)} (h : Sets w B A xss) (hB : B ≤ B') : Sets w B' A xss := by
  rcases h with rfl | ⟨b, off, e, hl, h⟩
  · exact .inl rfl
  · refine .inr ⟨b, off, e, by omega, fun k hk => ?_⟩
    obtain ⟨A', c, h1, h2⟩ := h k hk
    exact ⟨A', c, h1, h2.mono hB⟩
def putR (K : Nat) (nm : Nat → ByteArray) (xss : List (List Cel)) : List Cel := if 2048 < xss.length then [] else if xss.all mayC then putL K nm xss else []
def putE (K : Nat) (nm : Nat → ByteArray) (xss : List (List Cel)) : Int := if 2048 < xss.length then 4 else if xss.all mayC then checkC (putL K nm xss) else 8
def PutPost (w : World) (R : List Cel) (V : Int) (e : Ending) (w' : World) : Prop := ∃ v, e = .returned (.tuple #[v, .int .i64 V]) ∧ w'.ownsRow w.heap.size 45 5 v R.length (cv R) ∧ Below w.heap.size w w'
theorem all_of {xss : List (List Cel)} (h : ∀ j (hj : j < xss.length), mayC xss[j] = true) : xss.all mayC = true := by
  rw [List.all_eq_true]
  intro x hx
  obtain ⟨j, hj, rfl⟩ := List.getElem_of_mem hx
  exact h j hj
theorem not_all {xss : List (List Cel)} {k : Nat} (hk : k < xss.length) (h : mayC xss[k] = false) : xss.all mayC = false := by
  rw [Bool.eq_false_iff]
  intro g
  rw [List.all_eq_true] at g
  have := g xss[k] (List.getElem_mem hk)
  rw [h] at this
  cases this
theorem mayC_pos {xs : List Cel} (h : mayC xs = true) : 0 < xs.length := by
  unfold mayC at h
  simp only [Bool.and_eq_true, decide_eq_true_eq] at h
  exact h.1.1.1
theorem cv_ren (s : ByteArray) (xs : List Cel) (h : 0 < xs.length) : cv (ren s xs) = (cv xs).set 1 (.string s) := by
  cases xs with
  | nil => simp at h
  | cons c r => simp [ren, cv]
theorem put_step {out x : List Cel} {L : Nat} (hL : L = out.length) (hx : 0 < x.length) (s : ByteArray) : (cv out ++ cv x).set (L * 5 + 1) (.string s) = cv (out ++ ren s x) := by
  have h1 : (cv out).length = L * 5 := by rw [cv_len, hL]
  rw [cv_app, cv_ren s x hx, List.set_append_right _ _ (by omega), h1, show L * 5 + 1 - L * 5 = 1 by omega]
theorem ren_wf {M : Nat} {n : ByteArray} {x : List Cel} (h : ∀ c ∈ x, CelW M c) (hn : n.size ≤ M) : ∀ c ∈ ren n x, CelW M c := by
  cases x with
  | nil => intro c hc; simp [ren] at hc
  | cons d r =>
    intro c hc
    simp only [ren, List.mem_cons] at hc
    rcases hc with rfl | hc
    · have := h d (by simp)
      exact ⟨this.kind, hn, this.text, this.num0, this.num1, this.many0, this.many1⟩
    · exact h c (by simp [hc])
theorem bodyF_wf {M : Nat} {nm : Nat → ByteArray} (hn : ∀ i, (nm i).size ≤ M) : ∀ (xss : List (List Cel)) (i : Nat), (∀ l ∈ xss, ∀ c ∈ l, CelW M c) → ∀ c ∈ bodyF nm i xss, CelW M c
  | [], i, _, c, hc => by simp [bodyF] at hc
  | x :: r, i, h, c, hc => by
    rw [bodyF, List.mem_append] at hc
    rcases hc with hc | hc
    · exact ren_wf (h x (by simp)) (hn i) c hc
    · exact bodyF_wf hn r (i + 1) (fun l hl => h l (by simp [hl])) c hc
theorem putL_wf {nm : Nat → ByteArray} {K : Nat} {xss : List (List Cel)} (h : ∀ l ∈ xss, ∀ c ∈ l, CelW maxLen c) (hK : K ≤ 255) (hn : ∀ i, (nm i).size ≤ maxLen) (hl : xss.length ≤ 2048) : ∀ c ∈ putL K nm xss, CelW maxLen c := by
  intro c hc
  rw [putL, List.mem_cons] at hc
  rcases hc with rfl | hc
  · exact ⟨hK, by simp [headC, e0, ByteArray.size], by simp [headC, e0, ByteArray.size], by simp [headC], by simp [headC], by (simp [headC]; try omega), by (simp [headC]; try omega)⟩
  · exact bodyF_wf hn xss 0 h c hc
theorem rd_ofK2 {w : World} {base n c sz : Nat} {e : TypeId} {A : Option Addr} {xs : List Value} (h : w.ownsRow base e sz (.slice A n c) n xs) : Rd w w.heap.size A xs := by
  obtain ⟨h1, h2⟩ := h
  rcases h2 with ⟨h3, rfl⟩ | ⟨g, cap, cur, h3, hg, hh, hn, hc, hs, ht⟩
  · left
    exact List.eq_nil_of_length_eq_zero (by omega)
  · simp only [Value.slice.injEq] at h3
    obtain ⟨rfl, _, rfl⟩ := h3
    right
    refine ⟨g, 0, rfl, (Array.getElem?_eq_some_iff.1 hh).1, fun j hj => ?_⟩
    rw [Nat.zero_add, cell_of_row w g j _ _ (0, 0) hh, ← Array.getElem?_toList]
    have : xs[j]? = (cur.toList.take (n * sz))[j]? := by rw [ht]
    rw [List.getElem?_take, if_pos (by omega), List.getElem?_eq_getElem hj] at this
    exact this.symm
theorem own_new1 (w : World) (x : Cel) : (w.alloc (.cells (cv [x]).toArray 45)).ownsRow w.heap.size 45 5 (.slice (some ⟨w.heap.size, 0, none⟩) 1 1) 1 (cv [x]) :=
  ⟨rfl, .inr ⟨w.heap.size, 1, (cv [x]).toArray, rfl, Nat.le_refl _, by simp only [heap_alloc_new], Nat.le_refl _, by unfold maxLen; omega, rfl, by simp [cv]⟩⟩
set_option maxRecDepth 100000 in
set_option maxHeartbeats 4000000 in
theorem put_any (K : Nat) (nm : Nat → ByteArray) (A : Option Addr) (c : Nat) (xss : List (List Cel)) (f : Nat) (caps : Array Value) (w : World) {B : Nat} (hx : Sets w B A xss) (hB : B ≤ w.heap.size) (hT : Tabs w)
    (hl : ∀ l ∈ xss, l.length ≤ maxLen) (hw : ∀ l ∈ xss, ∀ c ∈ l, CelW maxLen c) (hK : K ≤ 255) (hnm : ∀ i, (nm i).size ≤ maxLen)
    (hC : ∀ args w, (callFunc f args).run Tryd.prog w = .ok (.enter f args) w) (hF : ∀ (i : Nat) w', i < xss.length → Below w.heap.size w w' → Calls Tryd.prog f (#[.int .i64 i] ++ caps) w' fun e w'' => e = .returned (.string (nm i)) ∧ Below w'.heap.size w' w'') :
    Calls Tryd.prog 33 #[.int .u8 K, .slice A xss.length c, .func (.func f) #[] caps] w fun e w' => PutPost w (putR K nm xss) (putE K nm xss) e w' := by
  by_cases hm : 2048 < xss.length
  · have hR : putR K nm xss = [] := by rw [putR, if_pos hm]
    have hE : putE K nm xss = 4 := by rw [putE, if_pos hm]
    rw [hR, hE]
    have hmI : (2048 : Int) < xss.length := by omega
    clear hx hT hl hw hF hR hE
    go_enter Tryd.func33, Tryd.ntmps33
    go_wp2
    go_ret2
    exact ⟨_, rfl, World.ownsRow_nil _ _ _ _, Below.refl _ _⟩
  · have hmI : decide ((2048 : Int) < xss.length) = false := by simp; omega
    obtain ⟨n, hn⟩ : ∃ n, xss.length = n := ⟨_, rfl⟩
    obtain ⟨i0, hi, hz0, hz1, hz2⟩ := info_parts info_cell
    have HI := Lib.hid (And.intro hi (And.intro hz0 (And.intro hz1 hz2)))
    have HX := Lib.hid hx
    have HT := Lib.hid hT
    have HL := Lib.hid (And.intro hl hw)
    have HF := Lib.hid hF
    have HN := Lib.hid hn
    have HC := Lib.hid hC
    have HM : n ≤ 2048 := by omega
    obtain ⟨R, hR⟩ : ∃ R, putR K nm xss = R := ⟨_, rfl⟩
    obtain ⟨V, hV⟩ : ∃ V, putE K nm xss = V := ⟨_, rfl⟩
    rw [hR, hV]
    have HR := Lib.hid hR
    have HV := Lib.hid hV
    rw [hn] at hmI ⊢
    clear hC hx hT hl hw hF hi hz0 hz1 hz2 hm hn hR hV
    go_enter Tryd.func33, Tryd.ntmps33
    go_wp2
    go_loopw [8, 23] (fun vo vi wr => ∃ k L : Nat, k ≤ n ∧ vi = .int .i64 k ∧ (∀ j (hj : j < xss.length), j < k → mayC xss[j] = true) ∧ L = (headC K n :: bodyF nm 0 (xss.take k)).length ∧ L ≤ 1 + k * 2048 ∧ wr.ownsRow w.heap.size 45 5 vo L (cv (headC K n :: bodyF nm 0 (xss.take k))) ∧ Below w.heap.size w wr) (fun _ vi _ => n - (intOf vi).toNat)
    case atStart => exact ⟨0, 1, Nat.zero_le _, rfl, fun j hj h => absurd h (by omega), rfl, by omega, own_new1 w (headC K n), (Below.refl _ _).alloc (Nat.le_refl _) _⟩
    case round =>
      obtain ⟨k, L, hk, rfl, hall, hL, hLb, hown, hbr⟩ := hrel
      obtain ⟨A2, c2, rfl, hc2, hcm⟩ := own_slice hown
      obtain ⟨hi, hz0, hz1, hz2⟩ := HI.out
      have hbs := hbr.size
      by_cases hlt : k < n
      · have hltd : decide ((k : Int) < n) = true := by simp; omega
        have hkx : k < xss.length := by rw [HN.out]; exact hlt
        obtain ⟨b, off, A', c', hA, hbB, hcell, hrd⟩ := (HX.out.thru hbr hB).at' hkx
        subst hA
        have hIn : In xss[k] A' wr B := ⟨hrd, by omega, HL.out.1 _ (List.getElem_mem hkx), HT.out.below hbr, HL.out.2 _ (List.getElem_mem hkx)⟩
        obtain ⟨x, hxk⟩ : ∃ x, xss[k] = x := ⟨_, rfl⟩
        rw [hxk] at hcell hrd hIn
        have c1 := check_any2 A' c' wr hIn
        have HIN := Lib.hid hIn
        have HO := Lib.hid hown
        have HA := Lib.hid hall
        have HLL := Lib.hid hL
        have HXK := Lib.hid hxk
        have HRD := Lib.hid hrd
        have hkI : (k : Int) < n := by omega
        clear hown hall hL hIn hxk hrd
        go_wp2_with fail
        refine c1.mono ?_
        rintro e w1 ⟨rfl, hb1⟩
        clear c1
        have hb01 := hbr.trans (hb1.mono hbr.size)
        by_cases hmx : mayC x = true
        · have hcx : checkC x = 0 := by rw [checkC, hmx]; rfl
          rw [hcx]
          have hxl := mayC_len hmx
          have hIN1 := HIN.out.below hb1
          have hO1 := own_below HO.out hb1 (own_lt HO.out)
          have HMX := Lib.hid hmx
          have hcl := cv_len x
          clear hmx hcx
          have hs1 := hb01.size
          go_wp2_with (first | (at_builtin; refine wpList_append_rdK _ (by rfl) _ _ _ (by rfl) w.heap.size 45 i0 (.agg #[.int .u8 0, .string ⟨#[]⟩, .string ⟨#[]⟩, .int .i64 0, .int .i64 0]) 5 56 Tryd.underlying25 hi hz0 hz1 hz2 (by rfl) (by decide) (.slice A2 L c2) L (cv (headC K n :: bodyF nm 0 (xss.take k))) (by rfl) hO1 (B := B) A' x.length c' (cv x) (by rfl) hIN1.rd hcl cv_one (by unfold maxLen; omega) (by omega) hs1 ?_; intro v5 w2 ho2 hg2 hr2))
          have hb02 : Below w.heap.size w w2 := Below.grown hb01 hg2 hs1 hr2
          have hf := HF.out k w2 hkx hb02
          rw [HC.out, Oper.upon_enter]
          refine hf.mono ?_
          rintro e w3 ⟨rfl, hb3⟩
          clear hf
          have hb03 := hb02.trans (hb3.mono hb02.size)
          have ho3 := own_below ho2 hb3 (own_lt ho2)
          have hxp : 0 < x.length := mayC_pos HMX.out
          obtain ⟨g, c5, cur, rfl, q1, q2, q3, q4, q5, q6⟩ := own_some ho3 (by omega)
          have hcell5 : ∃ y, w3.cell? ⟨g, L * 5 + 1, none⟩ = some y := by
            refine ⟨cur[L * 5 + 1]'(by rw [q5]; omega), ?_⟩
            rw [cell_of_row w3 g (L * 5 + 1) _ _ (0, 0) q4, Array.getElem?_eq_getElem]
          obtain ⟨y, hy⟩ := hcell5
          have hfz : w3.frozen? ⟨g, L * 5 + 1, none⟩ = false := by simp [World.frozen?, q4]
          have hLI : decide ((L : Int) < ((L + x.length : Nat) : Int)) = true := by simp; omega
          have hL2 : L < L + x.length := by omega
          have HO3 := Lib.hid ho3
          clear q4 q5 q6 ho3 ho2 hg2 hr2
          go_wp2
          go_roundw
          case rel =>
            have hout : headC K n :: bodyF nm 0 (xss.take (k + 1)) = (headC K n :: bodyF nm 0 (xss.take k)) ++ ren (nm k) x := by
              rw [bodyF_take nm xss k hkx, HXK.out]
              rfl
            refine ⟨k + 1, L + x.length, by omega, by go_num, fun j hj h => ?_, ?_, by omega, ?_, hb03.setCell (by omega) _⟩
            · by_cases e : j = k
              · subst e
                rw [HXK.out]
                exact HMX.out
              · exact HA.out j hj (by omega)
            · rw [hout, List.length_append, ren_len, ← HLL.out]
            · rw [hout, ← put_step HLL.out hxp]
              exact own_set HO3.out (L * 5 + 1) _ (by rw [List.length_append, cv_len, cv_len, ← HLL.out]; omega)
          case measure => simp [intOf]; omega
        · have hmf : mayC x = false := by simpa using hmx
          have hcx : checkC x = 8 := by rw [checkC, hmf]; rfl
          rw [hcx]
          have hR : putR K nm xss = [] ∧ putE K nm xss = 8 := by
            have := not_all hkx (by rw [HXK.out]; exact hmf)
            have hn' : ¬ 2048 < xss.length := by rw [HN.out]; omega
            rw [putR, putE, if_neg hn', if_neg hn', this]
            exact ⟨rfl, rfl⟩
          obtain rfl : R = [] := by rw [← HR.out]; exact hR.1
          obtain rfl : V = 8 := by rw [← HV.out]; exact hR.2
          clear hR hmx hmf hcx
          go_wp2
          go_ret2
          exact ⟨_, rfl, World.ownsRow_nil _ _ _ _, hb01⟩
      · obtain rfl : k = n := by omega
        have hltd : decide ((k : Int) < k) = false := by simp
        have hR : putR K nm xss = putL K nm xss ∧ putE K nm xss = checkC (putL K nm xss) := by
          have := all_of (xss := xss) (fun j hj => hall j hj (by rw [← HN.out]; exact hj))
          have hn' : ¬ 2048 < xss.length := by rw [HN.out]; omega
          rw [putR, putE, if_neg hn', if_neg hn', this]
          exact ⟨rfl, rfl⟩
        have hP : headC K k :: bodyF nm 0 (xss.take k) = putL K nm xss := by rw [putL, List.take_of_length_le (by rw [HN.out]; omega), HN.out]
        rw [hP] at hown hL
        obtain rfl : R = putL K nm xss := by rw [← HR.out]; exact hR.1
        have hZ : checkC (putL K nm xss) = V := by rw [← HV.out]; exact hR.2.symm
        clear hR hP
        have hw3 : ∀ l ∈ xss, ∀ c ∈ l, CelW maxLen c := HL.out.2
        have hIn : In (putL K nm xss) A2 wr wr.heap.size := ⟨rd_ofK2 hown, Nat.le_refl _, by rw [← hL]; unfold maxLen; omega, HT.out.below hbr, putL_wf hw3 hK hnm (by rw [HN.out]; exact HM)⟩
        have c1 := check_any2 A2 c2 wr hIn
        rw [← hL, hZ] at c1
        have HO := Lib.hid hown
        have HLL := Lib.hid hL
        clear hown hIn hZ hL
        go_wp2_with fail
        refine c1.mono ?_
        rintro e w1 ⟨rfl, hb1⟩
        go_wp2
        go_ret2
        refine ⟨_, rfl, ?_, hbr.trans (hb1.mono hbr.size)⟩
        rw [← HLL.out]
        exact own_below HO.out hb1 (own_lt HO.out)
open Go.RowKit
theorem enter_of {P : Program} {f : FuncId} {fn : Func} {c : Code} (hf : P.funcs[f]? = some fn) (hname : (fn.name == "runtime.NumGoroutine") = false) (hb : fn.body = some c) (args : Array Value) (w : World) : (callFunc f args).run P w = .ok (.enter f args) w := by
  have h1 : fn.name ≠ "runtime.NumGoroutine" := by simpa using hname
  simp [callFunc, hf, h1, hb]
theorem enter_items (args : Array Value) (w : World) : (callFunc 34 args).run Tryd.prog w = .ok (.enter 34 args) w :=
  enter_of Tryd.func34 (by kernel_rfl) rfl args w
theorem enter_members (args : Array Value) (w : World) : (callFunc 36 args).run Tryd.prog w = .ok (.enter 36 args) w :=
  enter_of Tryd.func36 (by kernel_rfl) rfl args w
def nmE : Nat → ByteArray := fun _ => e0
def nmL (ns : List ByteArray) (i : Nat) : ByteArray := ns.getD i e0
theorem items1_any (i : Nat) (w : World) : Calls Tryd.prog 34 (#[.int .i64 i] ++ #[]) w fun e w' => e = .returned (.string (nmE i)) ∧ Below w.heap.size w w' := by
  show Calls Tryd.prog 34 #[.int .i64 i] w _
  go_enter Tryd.func34, Tryd.ntmps34
  go_wp2
  go_ret
  exact ⟨rfl, Below.refl _ _⟩
theorem members1_any (ns : List ByteArray) (A : Option Addr) (c : Nat) (p : Nat) (i : Nat) (w : World) {B : Nat} (hn : Rd w B A (sv ns)) (hp : w.cell? ⟨p, 0, none⟩ = some (.slice A ns.length c)) (hi : i < ns.length) :
    Calls Tryd.prog 36 (#[.int .i64 i] ++ #[.pointer (some ⟨p, 0, none⟩)]) w fun e w' => e = .returned (.string (nmL ns i)) ∧ Below w.heap.size w w' := by
  show Calls Tryd.prog 36 #[.int .i64 i, .pointer (some ⟨p, 0, none⟩)] w _
  obtain ⟨b, off, rfl, _, hc⟩ := hn.at' (k := i) (by rw [sv_len]; exact hi)
  have hci := hc i (by rw [sv_len]; exact hi)
  have hs : (sv ns)[i]'(by rw [sv_len]; exact hi) = .string (nmL ns i) := by
    simp only [sv, List.getElem_map, nmL, List.getD_eq_getElem?_getD, List.getElem?_eq_getElem hi, Option.getD_some]
  rw [hs] at hci
  have hiI : (i : Int) < ns.length := by omega
  clear hc hs
  go_enter Tryd.func36, Tryd.ntmps36
  go_wp2
  go_ret
  exact ⟨rfl, Below.refl _ _⟩
def itemsR (K : Nat) (nm : Nat → ByteArray) (xss : List (List Cel)) : List Cel := if putE K nm xss = 0 then putR K nm xss else []
theorem items_any (A : Option Addr) (c : Nat) (xss : List (List Cel)) (w : World) {B : Nat} (hx : Sets w B A xss) (hB : B ≤ w.heap.size) (hT : Tabs w) (hl : ∀ l ∈ xss, l.length ≤ maxLen) (hw : ∀ l ∈ xss, ∀ c ∈ l, CelW maxLen c) :
    Calls Tryd.prog 10 #[.slice A xss.length c] w fun e w' => PutPost w (itemsR 6 nmE xss) (putE 6 nmE xss) e w' := by
  have hp := put_any 6 nmE A c xss 34 #[] w hx hB hT hl hw (by omega) (fun i => by simp [nmE, e0, ByteArray.size]) enter_items (fun i w' _ _ => items1_any i w')
  obtain ⟨V, hV⟩ : ∃ V, putE 6 nmE xss = V := ⟨_, rfl⟩
  obtain ⟨S, hS⟩ : ∃ S, itemsR 6 nmE xss = S := ⟨_, rfl⟩
  obtain ⟨R, hR⟩ : ∃ R, putR 6 nmE xss = R := ⟨_, rfl⟩
  unfold PutPost at hp ⊢
  rw [hV, hR] at hp
  rw [hV, hS]
  rw [itemsR, hV, hR] at hS
  have HS := Lib.hid hS
  clear hx hT hl hw hV hR hS
  go_enter Tryd.func10, Tryd.ntmps10
  go_wp2_with fail
  refine hp.mono ?_
  rintro e w1 ⟨v, rfl, ho, hb⟩
  clear hp
  by_cases hv : V = 0
  · subst hv
    have HO := Lib.hid ho
    clear ho
    go_wp2
    go_ret2
    obtain rfl : R = S := by rw [← HS.out]; simp
    exact ⟨_, rfl, HO.out, hb⟩
  · have hneB : (V != 0) = true := bne_iff_ne.2 hv
    have HVV := Lib.hid hv
    clear hv ho
    go_wp2
    go_ret2
    obtain rfl : [] = S := by rw [← HS.out, if_neg HVV.out]
    exact ⟨_, rfl, World.ownsRow_nil _ _ _ _, hb⟩
theorem members_any (ns : List ByteArray) (An : Option Addr) (cn : Nat) (A : Option Addr) (c : Nat) (xss : List (List Cel)) (w : World) {B : Nat} (hn : Rd w B An (sv ns)) (hx : Sets w B A xss) (hB : B ≤ w.heap.size) (hT : Tabs w) (hl : ∀ l ∈ xss, l.length ≤ maxLen) (hw : ∀ l ∈ xss, ∀ c ∈ l, CelW maxLen c)
    (hns : ∀ n ∈ ns, n.size ≤ maxLen) (hlen : ns.length = xss.length) (_ : xss.length ≤ maxLen) :
    Calls Tryd.prog 12 #[.slice An ns.length cn, .slice A xss.length c] w fun e w' => PutPost w (itemsR 7 (nmL ns) xss) (putE 7 (nmL ns) xss) e w' := by
  rw [hlen]
  have hb0 : Below w.heap.size w (w.alloc (.cells #[.slice An xss.length cn] 22)) := (Below.refl _ _).alloc (Nat.le_refl _) _
  have hv0 : (w.alloc (.cells #[.slice An xss.length cn] 22)).cell? ⟨w.heap.size, 0, none⟩ = some (.slice An xss.length cn) := by simp only [World.cell?, heap_alloc_new]; rfl
  obtain ⟨w0, hw0⟩ : ∃ w0, w0 = w.alloc (.cells #[.slice An xss.length cn] 22) := ⟨_, rfl⟩
  rw [← hw0] at hb0 hv0
  have hsz : w0.heap.size = w.heap.size + 1 := by rw [hw0]; simp
  have hp := put_any 7 (nmL ns) A c xss 36 #[.pointer (some ⟨w.heap.size, 0, none⟩)] w0 (hx.thru hb0 hB) (Nat.le_trans hB hb0.size) (hT.below hb0) hl hw (by omega) (fun i => by
      unfold nmL
      rw [List.getD_eq_getElem?_getD]
      cases h : ns[i]? with
      | none => simp [e0, ByteArray.size]
      | some s => exact hns s (List.mem_of_getElem? h)) enter_members (fun i w' hi hb => members1_any ns An cn w.heap.size i w' (B := B) ((hn.thru hb0 hB).thru hb (Nat.le_trans hB hb0.size)) (by rw [hlen]; exact (hb.cell (p := ⟨w.heap.size, 0, none⟩) (by show w.heap.size < w0.heap.size; omega)).trans hv0) (by omega))
  obtain ⟨V, hV⟩ : ∃ V, putE 7 (nmL ns) xss = V := ⟨_, rfl⟩
  obtain ⟨S, hS⟩ : ∃ S, itemsR 7 (nmL ns) xss = S := ⟨_, rfl⟩
  obtain ⟨R, hR⟩ : ∃ R, putR 7 (nmL ns) xss = R := ⟨_, rfl⟩
  unfold PutPost at hp ⊢
  rw [hV, hR] at hp
  rw [hV, hS]
  rw [itemsR, hV, hR] at hS
  have HS := Lib.hid hS
  clear hx hT hl hw hV hR hS hn hns hlen
  subst hw0
  go_enter Tryd.func12, Tryd.ntmps12
  go_wp2_with fail
  refine hp.mono ?_
  rintro e w1 ⟨v, rfl, ho, hb⟩
  clear hp
  have hb' := hb0.trans (hb.mono hb0.size)
  by_cases hv : V = 0
  · subst hv
    have HO := Lib.hid ho
    clear ho
    go_wp2
    go_ret2
    obtain rfl : R = S := by rw [← HS.out]; simp
    exact ⟨_, rfl, own_base HO.out hb0.size, hb'⟩
  · have hneB : (V != 0) = true := bne_iff_ne.2 hv
    have HVV := Lib.hid hv
    clear hv ho
    go_wp2
    go_ret2
    obtain rfl : [] = S := by rw [← HS.out, if_neg HVV.out]
    exact ⟨_, rfl, World.ownsRow_nil _ _ _ _, hb'⟩
open Go.RowKit
def qk (xs : List Cel) (i j : Nat) : Nat := iterE xs j (i + 1)
def subsL (xs : List Cel) (i : Nat) : List (List Cel) := (kidL xs i).map (subL xs)
def namesL (xs : List Cel) (i : Nat) : List ByteArray := (kidL xs i).map (nameAt xs)
theorem askedC_at {xs : List Cel} (hm : mayC xs = true) {i : Nat} (hil : i < xs.length) : askedC xs (i : Int) = 0 := by
  rw [askedC, if_pos hm, if_pos (by omega)]
theorem kid_get {xs : List Cel} {i j : Nat} (h : j < (kidL xs i).length) : (kidL xs i)[j] = qk xs i j := by
  cases hc : xs[i]? with
  | none =>
    rw [kidL, hc] at h
    simp at h
  | some c =>
    have e : kidL xs i = kidsN xs c.many.toNat (i + 1) := by rw [kidL, hc]
    rw [List.getElem_of_eq e h, kidsN_get]
    rfl
theorem kid_len {xs : List Cel} {i : Nat} {c : Cel} (hc : xs[i]? = some c) : (kidL xs i).length = c.many.toNat := by
  rw [kidL, hc]
  exact kidsN_len _ _ _
theorem qk_zero (xs : List Cel) (i : Nat) : qk xs i 0 = i + 1 := rfl
theorem qk_end {xs : List Cel} (hm : mayC xs = true) {i : Nat} (hil : i < xs.length) : qk xs i (kidL xs i).length = endN xs i := by
  obtain ⟨c, hc⟩ : ∃ c, xs[i]? = some c := ⟨xs[i], List.getElem?_eq_getElem hil⟩
  rw [kid_len hc]
  exact (kids_facts hc (may_ends hm hil).1).1
theorem qk_facts {xs : List Cel} (hm : mayC xs = true) {i : Nat} (hil : i < xs.length) {j : Nat} (hj : j < (kidL xs i).length) :
    qk xs i j < xs.length ∧ bh xs 16 (qk xs i j) = some (qk xs i (j + 1)) ∧ endN xs (qk xs i j) = qk xs i (j + 1) ∧ qk xs i j < qk xs i (j + 1) ∧ qk xs i (j + 1) ≤ xs.length := by
  obtain ⟨c, hc⟩ : ∃ c, xs[i]? = some c := ⟨xs[i], List.getElem?_eq_getElem hil⟩
  rw [kid_len hc] at hj
  obtain ⟨e, hb, _⟩ := kids_names (may_ends hm hil).1 hc j hj
  have hg := bh_gt xs 16 _ e hb
  have he : qk xs i (j + 1) = e := by
    unfold qk
    rw [iterE_succ, endN, hb]
    rfl
  rw [he]
  refine ⟨Nat.lt_of_lt_of_le hg.1 hg.2, hb, ?_, hg.1, hg.2⟩
  unfold qk
  rw [endN, hb]
  rfl
theorem sub_may' {xs : List Cel} (hm : mayC xs = true) {i : Nat} (hil : i < xs.length) : mayC (subL xs i) = true := sub_may (may_ends hm hil).1 (mayC_len hm)
theorem subs_may {xs : List Cel} (hm : mayC xs = true) {i : Nat} (hil : i < xs.length) : (subsL xs i).all mayC = true := by
  refine all_of fun j hj => ?_
  unfold subsL at hj ⊢
  rw [List.length_map] at hj
  rw [List.getElem_map, kid_get hj]
  exact sub_may' hm (qk_facts hm hil hj).1
theorem subs_len (xs : List Cel) (i : Nat) : (subsL xs i).length = (kidL xs i).length := by rw [subsL, List.length_map]
theorem names_len (xs : List Cel) (i : Nat) : (namesL xs i).length = (kidL xs i).length := by rw [namesL, List.length_map]
theorem qk_ge {xs : List Cel} (hm : mayC xs = true) {i : Nat} (hil : i < xs.length) : ∀ j, j ≤ (kidL xs i).length → i + 1 + j ≤ qk xs i j
  | 0, _ => Nat.le_refl _
  | j + 1, hj => by
    have h1 := qk_ge hm hil j (by omega)
    have h2 := (qk_facts hm hil (j := j) (by omega)).2.2.2.1
    omega
theorem kids_len {xs : List Cel} (hm : mayC xs = true) {i : Nat} (hil : i < xs.length) : (kidL xs i).length ≤ xs.length := by
  have h1 := qk_ge hm hil _ (Nat.le_refl _)
  rw [qk_end hm hil] at h1
  have := (may_ends hm hil).2.2
  omega
theorem put_sub {xs : List Cel} (hm : mayC xs = true) {i : Nat} (hil : i < xs.length) (K : Nat) (nm : Nat → ByteArray) (hp : putL K nm (subsL xs i) = subL xs i) : putE K nm (subsL xs i) = 0 ∧ itemsR K nm (subsL xs i) = subL xs i := by
  have hl := Nat.le_trans (kids_len hm hil) (mayC_len hm)
  have h1 : ¬ 2048 < (subsL xs i).length := by rw [subs_len]; omega
  have hE : putE K nm (subsL xs i) = 0 := by
    rw [putE, if_neg h1, subs_may hm hil, if_pos rfl, hp, checkC, sub_may' hm hil]
    rfl
  refine ⟨hE, ?_⟩
  rw [itemsR, hE, if_pos rfl, putR, if_neg h1, subs_may hm hil, if_pos rfl, hp]
theorem items_sub {xs : List Cel} (hm : mayC xs = true) {i : Nat} (hil : i < xs.length) (hk : kindAt xs i = 6) : putE 6 nmE (subsL xs i) = 0 ∧ itemsR 6 nmE (subsL xs i) = subL xs i := by
  obtain ⟨c, hc⟩ : ∃ c, xs[i]? = some c := ⟨xs[i], List.getElem?_eq_getElem hil⟩
  have h6 : c.kind = 6 := by rw [← hk, kindAt, hc]
  refine put_sub hm hil 6 nmE ?_
  rw [← h6]
  refine parts_put (may_ends hm hil).1 hc (.inl h6) nmE fun j hj => ?_
  obtain ⟨e, h1, h2⟩ := kids_names (may_ends hm hil).1 hc j hj
  exact ⟨e, h1, (h2 h6).symm⟩
theorem members_sub {xs : List Cel} (hm : mayC xs = true) {i : Nat} (hil : i < xs.length) (hk : kindAt xs i = 7) : putE 7 (nmL (namesL xs i)) (subsL xs i) = 0 ∧ itemsR 7 (nmL (namesL xs i)) (subsL xs i) = subL xs i := by
  obtain ⟨c, hc⟩ : ∃ c, xs[i]? = some c := ⟨xs[i], List.getElem?_eq_getElem hil⟩
  have h7 : c.kind = 7 := by rw [← hk, kindAt, hc]
  refine put_sub hm hil 7 _ ?_
  rw [← h7]
  refine parts_put (may_ends hm hil).1 hc (.inr h7) _ fun j hj => ?_
  obtain ⟨e, h1, _⟩ := kids_names (may_ends hm hil).1 hc j hj
  refine ⟨e, h1, ?_⟩
  have hj' : j < (kidL xs i).length := by rw [kid_len hc]; exact hj
  rw [nmL, namesL, List.getD_eq_getElem?_getD, List.getElem?_map, List.getElem?_eq_getElem hj', Option.map_some, Option.getD_some, kid_get hj']
  rfl
theorem leaf_sub {xs : List Cel} (hm : mayC xs = true) {i : Nat} (hil : i < xs.length) (h6 : kindAt xs i ≠ 6) (h7 : kindAt xs i ≠ 7) : (kidL xs i).length = 0 ∧ (subL xs i).length = 1 := by
  obtain ⟨c, hc⟩ : ∃ c, xs[i]? = some c := ⟨xs[i], List.getElem?_eq_getElem hil⟩
  have hb := (may_ends hm hil).1
  have ho : oneC c = true := by
    cases h : oneC c with
    | true => rfl
    | false => rw [bh_bad hc h] at hb; cases hb
  have hkk : kindAt xs i = c.kind := by rw [kindAt, hc]
  have hk : ¬ nest c := by
    rintro (h | h)
    · exact h6 (by rw [hkk, h])
    · exact h7 (by rw [hkk, h])
  have hm0 := oneC_leaf ho hk
  refine ⟨by rw [kid_len hc, hm0]; rfl, ?_⟩
  have hn : endN xs i = i + 1 := by rw [endN, bh_leaf hc ho hk]; rfl
  rw [subL_len hn (by omega)]
  omega
theorem sameC_self (xs : List Cel) : sameC xs xs = true := (sameC_iff _ _).2 rfl
end Go.Proofs.YtmaefhnlipcmoaaDoor
