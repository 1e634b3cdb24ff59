/- The law CellParts: the walk. Conditions: what the row's reach gives; Go's two tables of utf8. -/
import Derived.Test.YtmaefhnlipcmoaaDoorPartsL
import Derived.Test.YtmaefhnlipcmoaaDoorAlv
namespace Go.Proofs.YtmaefhnlipcmoaaDoor
open Go.RowKit
theorem wrap_small (n : Int) (h : 0 ≤ n ∧ n ≤ 1000000) : wrap64 n = n := by unfold wrap64; omega
theorem sv_app' (a b : List ByteArray) : sv (a ++ b) = sv a ++ sv b := by simp [sv]
theorem sv_one' {xs : List ByteArray} : ∀ v ∈ sv xs, v.oneCell' = true := by
  intro v hv
  obtain ⟨s, _, rfl⟩ := List.mem_map.1 hv
  rfl
theorem info_seg : (Tryd.prog.info? 25).map (fun i => (i.zero, i.size, i.bytes)) = some (some (.slice none 0 0), 1, 24) := by kernel_rfl
theorem info_strg : (Tryd.prog.info? 9).map (fun i => (i.zero, i.size, i.bytes)) = some (some (.string ⟨#[]⟩), 1, 16) := by kernel_rfl
/-- a row of another element type stays, whatever is appended to a row -/
theorem own_other {w w' : World} {b b' n n' sz sz' : Nat} {e e' : TypeId} {v v' : Value} {xs xs' : List Value} (h : w.ownsRow b e sz v n xs) (h' : w.ownsRow b' e' sz' v' n' xs') (he : e ≠ e') (hg : w.grownBy w' v'.ownBlock) : w'.ownsRow b e sz v n xs := by
  refine ⟨h.1, ?_⟩
  rcases h.2 with h3 | ⟨g, cap, cur, rfl, hg', hh, r⟩
  · exact .inl h3
  · refine .inr ⟨g, cap, cur, rfl, hg', (hg.block g (Array.getElem?_eq_some_iff.1 hh).1 ?_).trans hh, r⟩
    intro hb
    rcases h'.2 with ⟨rfl, _⟩ | ⟨g2, cap2, cur2, rfl, _, hh2, _⟩
    · simp [Value.ownBlock] at hb
    · simp [Value.ownBlock] at hb
      subst hb
      rw [hh] at hh2
      simp at hh2
      exact he hh2.2
def Twins (w : World) (base : Nat) (vs : List Value) (xss : List (List Cel)) : Prop := ∀ (j : Nat) (h : j < vs.length) (h' : j < xss.length), w.ownsRow base 45 5 vs[j] xss[j].length (cv xss[j])
theorem Twins.sets {w : World} {base c : Nat} {A : Option Addr} {vs : List Value} {xss : List (List Cel)} (hv : vs.length = xss.length) (h : Twins w base vs xss) (hown : w.ownsRow base 25 1 (.slice A xss.length c) xss.length vs) : Sets w w.heap.size A xss := by
  rcases Rd.of_own hown with h0 | ⟨b, off, rfl, hb, hc⟩
  · left
    rw [h0] at hv
    exact List.eq_nil_of_length_eq_zero hv.symm
  · refine .inr ⟨b, off, rfl, hb, fun k hk => ?_⟩
    have ho := h k (by omega) hk
    obtain ⟨A', c', e, _, _⟩ : ∃ A' c', vs[k] = .slice A' xss[k].length c' ∧ xss[k].length ≤ c' ∧ True := by
      rcases ho.2 with ⟨h3, h4⟩ | ⟨g, cap, cur, h3, _, _, hn, _⟩
      · exact ⟨none, 0, by rw [h3, h4], by omega, trivial⟩
      · exact ⟨_, cap, h3, hn, trivial⟩
    rw [e] at ho
    exact ⟨A', c', by rw [hc k (by omega), e], rd_ofK2 ho⟩
theorem Twins.step {w w' : World} {base n sz : Nat} {e : TypeId} {v : Value} {vs us : List Value} {xss : List (List Cel)} (h : Twins w base vs xss) (hown : w.ownsRow base e sz v n us) (he : 45 ≠ e) (hg : w.grownBy w' v.ownBlock) : Twins w' base vs xss :=
  fun j hj hj' => own_other (h j hj hj') hown he hg
theorem Twins.below {w w' : World} {base : Nat} {vs : List Value} {xss : List (List Cel)} (h : Twins w base vs xss) (hb : Below w.heap.size w w') : Twins w' base vs xss :=
  fun j hj hj' => own_below (h j hj hj') hb (own_lt (h j hj hj'))
theorem Twins.add {w : World} {base : Nat} {vs : List Value} {v : Value} {xss : List (List Cel)} (h : Twins w base vs xss) {k : Nat} (hk : vs.length = k) (hl : k < xss.length) (ho : w.ownsRow base 45 5 v xss[k].length (cv xss[k])) : Twins w base (vs ++ [v]) xss := by
  subst hk
  intro j hj hj'
  by_cases hlt : j < vs.length
  · have e : (vs ++ [v])[j] = vs[j] := List.getElem_append_left hlt
    rw [e]
    exact h j hlt hj'
  · obtain rfl : j = vs.length := by simp at hj; omega
    simpa using ho
theorem kid_cell {w : World} {B i j : Nat} {A : Option Addr} {xs : List Cel} (h : Rd w B A (iv ((kidL xs i).map Int.ofNat))) (hj : j < (kidL xs i).length) : ∃ b off, A = some ⟨b, off, none⟩ ∧ b < B ∧ w.cell? ⟨b, off + j, none⟩ = some (.int .i64 (qk xs i j : Nat)) := by
  have hl : j < (iv ((kidL xs i).map Int.ofNat)).length := by rw [iv_len, List.length_map]; exact hj
  obtain ⟨b, off, rfl, hb, hc⟩ := h.at' hl
  refine ⟨b, off, rfl, hb, ?_⟩
  rw [hc j hl]
  simp only [iv, List.getElem_map, kid_get hj]
  rfl
theorem subL_wf {xs : List Cel} (h : ∀ c ∈ xs, CelW maxLen c) (i : Nat) : ∀ c ∈ subL xs i, CelW maxLen c := by
  have h1 : ∀ c ∈ (xs.drop i).take (endN xs i - i), CelW maxLen c := fun c hc => h c (List.mem_of_mem_drop (List.mem_of_mem_take hc))
  unfold subL
  cases hl : (xs.drop i).take (endN xs i - i) with
  | nil => intro c hc; simp [bare] at hc
  | cons d r =>
    rw [hl] at h1
    intro c hc
    simp only [bare, List.mem_cons] at hc
    rcases hc with rfl | hc
    · have := h1 d (by simp)
      exact ⟨this.kind, by simp [e0, ByteArray.size], this.text, this.num0, this.num1, this.many0, this.many1⟩
    · exact h1 c (by simp [hc])
theorem subL_len_le (xs : List Cel) (i : Nat) : (subL xs i).length ≤ xs.length := by
  rw [subL, bare_len]
  simp
  omega
theorem nameAt_size {xs : List Cel} (h : ∀ c ∈ xs, CelW maxLen c) (q : Nat) : (nameAt xs q).size ≤ maxLen := by
  unfold nameAt
  cases hc : xs[q]? with
  | none => simp [e0, ByteArray.size]
  | some c => exact (h c (List.mem_of_getElem? hc)).name
theorem subR_at {xs : List Cel} (hm : mayC xs = true) {q : Nat} (hq : q < xs.length) : subR xs (q : Int) = subL xs q := by
  rw [subR, askedC_at hm hq, if_pos rfl, Int.toNat_natCast]
theorem endR_at {xs : List Cel} (hm : mayC xs = true) {q : Nat} (hq : q < xs.length) : endR xs (q : Int) = (endN xs q : Nat) := by
  rw [endR, askedC_at hm hq, if_pos rfl, Int.toNat_natCast]
theorem kidsR_at {xs : List Cel} (hm : mayC xs = true) {q : Nat} (hq : q < xs.length) : kidsR xs (q : Int) = (kidL xs q).map Int.ofNat := by
  rw [kidsR, askedC_at hm hq, if_pos rfl, Int.toNat_natCast]
set_option maxRecDepth 100000 in
set_option maxHeartbeats 8000000 in
theorem parts_walk {xs : List Cel} (A : Option Addr) (c : Nat) (a : Int) (w : World) (hx : Rd w w.heap.size A (cv xs)) (hwx : ∀ c ∈ xs, CelW maxLen c) (hlx : xs.length ≤ maxLen) (hcx : xs.length ≤ c) (hcm : c ≤ maxLen) (hT : Tabs w) :
    Calls Tryd.prog 7 #[.slice A xs.length c, .int .i64 a] w fun e w' => e = .returned (.bool true) ∧ Below w.heap.size w w' := by
  have hIn : In xs A w w.heap.size := ⟨hx, Nat.le_refl _, hlx, hT, hwx⟩
  have al := alive_any w hT
  have g1 := fun W (q : Below w.heap.size w W) => great_ref A c 200 W (hx.thru q (Nat.le_refl _)) hlx (by omega)
  have HIN := Lib.hid hIn
  clear hx hT hIn
  cases hg1 : greatC xs 200 with
  | true =>
    simp only [hg1] at g1
    clear hwx hlx
    go_enter Tryd.func7, Tryd.ntmps7
    go_wp2_with fail
    refine al.mono ?_
    rintro e w1 ⟨rfl, hb1⟩
    go_wp2_with fail
    refine (g1 w1 hb1).mono ?_
    rintro e w2 ⟨rfl, rfl⟩
    go_wp2
    go_ret
    exact ⟨rfl, hb1⟩
  | false =>
    simp only [hg1] at g1
    obtain ⟨hn, _⟩ := greatC_not hg1
    clear hg1
    by_cases hV : askedC xs a = 0
    · obtain ⟨hm, ha0, hil⟩ := askedC_ok hV
      obtain ⟨i, rfl⟩ : ∃ i : Nat, a = i := ⟨a.toNat, by omega⟩
      simp only [Int.toNat_natCast] at hil
      have c1 := fun W (q : Below w.heap.size w W) => sub_any A c (i : Int) W (HIN.out.below q) hcx hcm
      have c2 := fun W (q : Below w.heap.size w W) => kids_any A c (i : Int) W (HIN.out.below q) (.inl (by omega))
      have c3 := fun W (q : Below w.heap.size w W) => end_any A c (i : Int) W (HIN.out.below q)
      simp only [subR_at hm hil, kidsR_at hm hil, endR_at hm hil, hV] at c1 c2 c3
      have hnI : decide ((200 : Int) < xs.length) = false := by simp; omega
      have he := may_ends hm hil
      obtain ⟨m, hml⟩ : ∃ m, (kidL xs i).length = m := ⟨_, rfl⟩
      have hmx := kids_len hm hil
      rw [hml] at hmx
      have hm200 : m ≤ 200 := by omega
      obtain ⟨n, hne⟩ : ∃ n, endN xs i = n := ⟨_, rfl⟩
      rw [hne] at he
      simp only [hne] at c3
      have hqe : qk xs i m = n := by rw [← hml, qk_end hm hil, hne]
      have hSl : (subL xs i).length = n - i := subL_len hne he.2.2
      have hkl : ((kidL xs i).map Int.ofNat).length = m := by rw [List.length_map, hml]
      simp only [hSl] at c1
      simp only [hkl] at c2
      have hni : ((n - i : Nat) : Int) = (n : Int) - i := by omega
      have F := Lib.hid (And.intro hm (And.intro hil (And.intro hml (And.intro hne (And.intro hqe (And.intro he (And.intro hSl hkl)))))))
      have HW := Lib.hid hwx
      have HC := Lib.hid hcx
      obtain ⟨i1, hi1, hy0, hy1, hy2⟩ := info_parts info_seg
      obtain ⟨i2, hi2, hs0, hs1, hs2⟩ := info_parts info_strg
      have HI := Lib.hid (And.intro hi1 (And.intro hy0 (And.intro hy1 hy2)))
      have HJ := Lib.hid (And.intro hi2 (And.intro hs0 (And.intro hs1 hs2)))
      clear hV hwx hcx hm hil hml hne hqe he hSl hkl hi1 hy0 hy1 hy2 hi2 hs0 hs1 hs2 ha0
      go_enter Tryd.func7, Tryd.ntmps7
      go_wp2_with fail
      refine al.mono ?_
      rintro e w1 ⟨rfl, hb1⟩
      go_wp2_with fail
      refine (g1 w1 hb1).mono ?_
      rintro e w2 ⟨rfl, rfl⟩
      go_wp2_with fail
      refine (c1 w2 hb1).mono ?_
      rintro e w3 ⟨v1, rfl, ho1, hb3⟩
      have b3 := hb1.trans (hb3.mono hb1.size)
      obtain ⟨A1, k1, rfl, _, _⟩ := own_slice ho1
      have HO1 := Lib.hid ho1
      clear ho1
      go_wp2_with fail
      refine (c2 w3 b3).mono ?_
      rintro e w4 ⟨v2, rfl, ho2, hb4⟩
      have b4 := b3.trans (hb4.mono b3.size)
      obtain ⟨A2, k2, rfl, _, _⟩ := own_slice ho2
      have HO2 := Lib.hid ho2
      clear ho2
      go_wp2_with fail
      refine (c3 w4 b4).mono ?_
      rintro e w5 ⟨rfl, hb5⟩
      have b5 := b4.trans (hb5.mono b4.size)
      have q35 : Below w3.heap.size w3 w5 := hb4.trans (hb5.mono hb4.size)
      clear c1 c2 c3 g1 al
      go_wp2
      go_loopw [12, 13, 14, 15] (fun vl vn vq vi wr => ∃ (j : Nat) (vs : List Value), j ≤ m ∧ vs.length = j ∧ vi = .int .i64 j ∧ vq = .int .i64 (qk xs i j : Nat) ∧ wr.ownsRow w5.heap.size 25 1 vl j vs ∧ Twins wr w5.heap.size vs (subsL xs i) ∧ wr.ownsRow w5.heap.size 9 1 vn j (sv ((namesL xs i).take j)) ∧ Below w5.heap.size w5 wr) (fun _ _ _ vi _ => m - (intOf vi).toNat)
      case atStart => exact ⟨0, [], Nat.zero_le _, rfl, rfl, by have h := F.out.2.1; rw [qk_zero, wrap_small _ (by omega)]; rfl, World.ownsRow_nil _ _ _ _, fun j h => absurd h (Nat.not_lt_zero _), World.ownsRow_nil _ _ _ _, Below.refl _ _⟩
      case round =>
        obtain ⟨j, vs, hj, hvs, rfl, rfl, howl, htw, hown, hbr⟩ := hrel
        have hbrs := hbr.size
        obtain ⟨Al, cl, rfl, _, _⟩ := own_slice howl
        obtain ⟨An, cn, rfl, _, _⟩ := own_slice hown
        obtain ⟨hm, hil, hml, hne, hqe, he, hSl, hkl⟩ := F.out
        have hrk : ∀ W, Below w5.heap.size w5 W → Rd W w4.heap.size A2 (iv ((kidL xs i).map Int.ofNat)) := fun W q => ((Rd.of_own HO2.out).thru hb5 (Nat.le_refl _)).thru q hb5.size
        by_cases hlt : j < m
        · have hjl : j < (kidL xs i).length := by rw [hml]; exact hlt
          obtain ⟨f1, f2, f3, f4, f5⟩ := qk_facts hm hil hjl
          obtain ⟨bk, ok, hA2, hbk, _⟩ := kid_cell (hrk w5 (Below.refl _ _)) hjl
          subst hA2
          have hkc : ∀ W, Below w5.heap.size w5 W → W.cell? ⟨bk, ok + j, none⟩ = some (.int .i64 (qk xs i j : Nat)) := fun W q => by
            obtain ⟨b', o', e', _, h'⟩ := kid_cell (hrk W q) hjl
            simp only [Option.some.injEq, Addr.mk.injEq, and_true] at e'
            obtain ⟨rfl, rfl⟩ := e'
            exact h'
          have hnc : ∀ W, Below w5.heap.size w5 W → ∃ b off, A = some ⟨b, off, none⟩ ∧ W.cell? ⟨b, off + qk xs i j * 5 + 1, none⟩ = some (.string (nameAt xs (qk xs i j))) := fun W q => by
            obtain ⟨b, off, h1, _, h2, _⟩ := name_cell HIN.out.rd (Nat.le_refl _) (b5.trans (q.mono b5.size)) f1
            exact ⟨b, off, h1, h2⟩
          obtain ⟨bv, ov, hA, _⟩ := hnc w5 (Below.refl _ _)
          subst hA
          have hnc' : ∀ W, Below w5.heap.size w5 W → W.cell? ⟨bv, ov + qk xs i j * 5 + 1, none⟩ = some (.string (nameAt xs (qk xs i j))) := fun W q => by
            obtain ⟨b', o', e', h'⟩ := hnc W q
            simp only [Option.some.injEq, Addr.mk.injEq, and_true] at e'
            obtain ⟨rfl, rfl⟩ := e'
            exact h'
          have hNN : (namesL xs i).take (j + 1) = (namesL xs i).take j ++ [nameAt xs (qk xs i j)] := by
            rw [List.take_succ_eq_append_getElem (by rw [names_len]; exact hjl)]
            simp only [namesL, List.getElem_map, kid_get hjl]
          have hSS : ∀ h : j < (subsL xs i).length, (subsL xs i)[j] = subL xs (qk xs i j) := fun h => by simp only [subsL, List.getElem_map, kid_get hjl]
          have hXl : (subL xs (qk xs i j)).length = qk xs i (j + 1) - qk xs i j := subL_len f3 f5
          have s1 := sub_any (some ⟨bv, ov, none⟩) c (qk xs i j : Nat) wr (HIN.out.below (b5.trans (hbr.mono b5.size))) HC.out hcm
          rw [subR_at hm f1, askedC_at hm f1] at s1
          have s2 := fun W (q : Below w5.heap.size w5 W) => end_any (some ⟨bv, ov, none⟩) c (qk xs i j : Nat) W (HIN.out.below (b5.trans (q.mono b5.size)))
          simp only [endR_at hm f1, askedC_at hm f1, f3] at s2
          obtain ⟨q, hq⟩ : ∃ q, qk xs i j = q := ⟨_, rfl⟩
          obtain ⟨q', hq'⟩ : ∃ q', qk xs i (j + 1) = q' := ⟨_, rfl⟩
          obtain ⟨X, hX⟩ : ∃ X, subL xs q = X := ⟨_, rfl⟩
          obtain ⟨nm, hnm⟩ : ∃ nm, nameAt xs q = nm := ⟨_, rfl⟩
          rw [hq] at hSS hNN f1 f4 hXl s1
          simp only [hq, hq', hnm] at hkc hnc' s2 hNN
          rw [hX] at hXl s1
          rw [hq'] at hXl f4 f5
          have hkr := hkc wr hbr
          have hjm : (j : Int) < m := by omega
          have hXI : (((q' - q : Nat) : Int) != wrap64 ((q' : Int) - q)) = false := by rw [wrap_small _ (by omega)]; simp; omega
          have hqx : (q : Int) < xs.length := by omega
          rw [hXl] at s1
          have P := Lib.hid (And.intro hkc (And.intro hnc' (And.intro hNN (And.intro hSS (And.intro hXl (And.intro hq (And.intro hq' hX)))))))
          have HL := Lib.hid howl
          have HN := Lib.hid hown
          have HT2 := Lib.hid htw
          clear hnc hkc hnc' hNN hSS hXl hq hq' hX hnm howl hown htw f1 f2 f3 f5 hm hil hml hne hqe he hSl hkl hrk
          rw [show qk xs i j = q from P.out.2.2.2.2.2.1]
          go_wp2_with fail
          refine s1.mono ?_
          rintro e u1 ⟨v, rfl, hoX, hb1⟩
          clear s1
          obtain ⟨Ax, cx, rfl, _, _⟩ := own_slice hoX
          have d1 := hbr.trans (hb1.mono hbrs)
          have hk1 := P.out.1 u1 d1
          have HX1 := Lib.hid (own_base hoX hbrs)
          have HL1 := Lib.hid (own_below HL.out hb1 (own_lt HL.out))
          have HN1 := Lib.hid (own_below HN.out hb1 (own_lt HN.out))
          have HT1 := Lib.hid (HT2.out.below hb1)
          clear hoX hb1 HL HN HT2 hkr
          go_wp2_with fail
          refine (s2 u1 d1).mono ?_
          rintro e u2 ⟨rfl, hb2⟩
          clear s2 hk1
          have d2 := d1.trans (hb2.mono d1.size)
          have hk2 := P.out.1 u2 d2
          have hx2 := own_below HX1.out hb2 (own_lt HX1.out)
          have hl2 := (own_below HL1.out hb2 (own_lt HL1.out)).alloc (.cells #[Value.slice Ax (q' - q) cx] 25)
          have HX2 := Lib.hid (hx2.alloc (.cells #[Value.slice Ax (q' - q) cx] 25))
          have HN2 := Lib.hid ((own_below HN1.out hb2 (own_lt HN1.out)).alloc (.cells #[Value.slice Ax (q' - q) cx] 25))
          have ht2 := HT1.out.below hb2
          have HT2 : Hid (Twins (u2.alloc (.cells #[Value.slice Ax (q' - q) cx] 25)) w5.heap.size vs (subsL xs i)) := Lib.hid fun j hj hj' => (ht2 j hj hj').alloc _
          have d2s := d2.size
          have hone : ∀ u ∈ [Value.slice Ax (q' - q) cx], u.oneCell' = true := by
            intro u hu
            simp at hu
            subst hu
            rfl
          have d2a : Below w5.heap.size w5 (u2.alloc (.cells #[Value.slice Ax (q' - q) cx] 25)) := d2.alloc d2s _
          have hszA : w5.heap.size ≤ (u2.alloc (.cells #[Value.slice Ax (q' - q) cx] 25)).heap.size := by simp; omega
          obtain ⟨hi1, hy0, hy1, hy2⟩ := HI.out
          obtain ⟨hi2, hs0, hs1, hs2⟩ := HJ.out
          clear hx2 ht2 HX1 HL1 HN1 HT1 hb2
          go_upto_region 23 with (at_builtin; refine wpList_append_rd _ (by rfl) _ _ _ (by rfl) w5.heap.size 25 i1 (.slice none 0 0) 24 Tryd.underlying23 hi1 hy0 hy1 hy2 (by rfl) (.slice Al j cl) j vs (by rfl) hl2 (B := (u2.heap.size + 1)) (some ⟨u2.heap.size, 0, none⟩) 1 1 [Value.slice Ax (q' - q) cx] (by rfl) (rd_new u2 #[Value.slice Ax (q' - q) cx] 25 _ rfl) rfl hone (by unfold maxLen; omega) (by omega) hszA ?_; intro v2 u3 ho3 hg3 hr3)
          have d3 : Below w5.heap.size w5 u3 := d2a.grown hg3 hszA hr3
          have d3s := d3.size
          have hk3 := P.out.1 u3 d3
          have hv3 := P.out.2.1 u3 d3
          have HX3 := Lib.hid (own_other HX2.out hl2 (by decide) hg3)
          have HN3 := own_other HN2.out hl2 (by decide) hg3
          have HT3 := Lib.hid (HT2.out.step hl2 (by decide) hg3)
          have HL3 := Lib.hid ho3
          have hn3 := HN3.alloc (.cells #[Value.string nm] 9)
          have d3a : Below w5.heap.size w5 (u3.alloc (.cells #[Value.string nm] 9)) := d3.alloc d3s _
          have hszB : w5.heap.size ≤ (u3.alloc (.cells #[Value.string nm] 9)).heap.size := by simp; omega
          clear HX2 HN2 HT2 ho3 hg3 hr3 hl2 hone hszA d2a hk2
          go_wp2_with (at_builtin; refine wpList_append_rd _ (by rfl) _ _ _ (by rfl) w5.heap.size 9 i2 (.string ⟨#[]⟩) 16 Tryd.underlying22 hi2 hs0 hs1 hs2 (by rfl) (.slice An j cn) j (sv ((namesL xs i).take j)) (by rfl) hn3 (B := (u3.heap.size + 1)) (some ⟨u3.heap.size, 0, none⟩) 1 1 (sv [nm]) (by rfl) (rd_new u3 #[Value.string nm] 9 _ rfl) rfl sv_one' (by unfold maxLen; omega) (by omega) hszB ?_; intro v3 u4 ho4 hg4 hr4)
          have d4 : Below w5.heap.size w5 u4 := d3a.grown hg4 hszB hr4
          go_roundw
          case rel =>
            obtain ⟨_, _, hNN, hSS, hXl, hq, hq', hX⟩ := P.out
            have hjs : j < (subsL xs i).length := by rw [subs_len, F.out.2.2.1]; exact hlt
            refine ⟨j + 1, vs ++ [Value.slice Ax (q' - q) cx], hlt, by simp [hvs], by go_num, by rw [hq'], own_other (HL3.out.alloc _) hn3 (by decide) hg4, ?_, by rw [hNN, sv_app']; exact ho4, d4⟩
            refine Twins.add ?_ hvs hjs ?_
            · exact Twins.step (fun j hj hj' => (HT3.out j hj hj').alloc _) hn3 (by decide) hg4
            · rw [hSS hjs, hX, hXl]
              exact own_other (HX3.out.alloc _) hn3 (by decide) hg4
          case measure => simp [intOf]; omega
        · have hjm : m = j := by omega
          subst hjm
          have hltd : decide ((m : Int) < m) = false := by simp
          have bw := b5.trans (hbr.mono b5.size)
          have hS := own_below HO1.out (q35.trans (hbr.mono q35.size)) (own_lt HO1.out)
          have hSm := subL_len_le xs i
          have hIS : In (subL xs i) A1 wr wr.heap.size := ⟨rd_ofK2 hS, Nat.le_refl _, by omega, HIN.out.tabs.below bw, subL_wf HW.out i⟩
          have k1c := check_any2 A1 k1 wr hIS
          rw [hSl, sub_check (may_ends hm hil).1 (mayC_len hm)] at k1c
          have hsub : (subsL xs i).length = m := by rw [subs_len, hml]
          have hnam : (namesL xs i).length = m := by rw [names_len, hml]
          have hSets : Sets wr wr.heap.size Al (subsL xs i) := htw.sets (by rw [hvs, hsub]) (by rw [hsub]; exact howl)
          have hNms : Rd wr wr.heap.size An (sv (namesL xs i)) := by
            have := Rd.of_own hown
            rwa [List.take_of_length_le (by omega)] at this
          have hsl : ∀ l ∈ subsL xs i, l.length ≤ maxLen := fun l hl => by
            obtain ⟨q, _, rfl⟩ := List.mem_map.1 hl
            have := subL_len_le xs q
            omega
          have hsw : ∀ l ∈ subsL xs i, ∀ c ∈ l, CelW maxLen c := fun l hl => by
            obtain ⟨q, _, rfl⟩ := List.mem_map.1 hl
            exact subL_wf HW.out q
          have hnw : ∀ s ∈ namesL xs i, s.size ≤ maxLen := fun s hs => by
            obtain ⟨q, _, rfl⟩ := List.mem_map.1 hs
            exact nameAt_size HW.out q
          have hitems := fun W (q : Below wr.heap.size wr W) => items_any Al cl (subsL xs i) W (hSets.thru q (Nat.le_refl _)) q.size (HIN.out.tabs.below (bw.trans (q.mono bw.size))) hsl hsw
          have hmembers := fun W (q : Below wr.heap.size wr W) => members_any (namesL xs i) An cn Al cl (subsL xs i) W (hNms.thru q (Nat.le_refl _)) (hSets.thru q (Nat.le_refl _)) q.size (HIN.out.tabs.below (bw.trans (q.mono bw.size))) hsl hsw hnw (by rw [hsub, hnam]) (by rw [hsub]; omega)
          simp only [hsub, hnam] at hitems hmembers
          have hsame := fun W (q : Below wr.heap.size wr W) (Az : Option Addr) (cz : Nat) (hz : Rd W W.heap.size Az (cv (subL xs i))) => same_ref Az A1 cz k1 W hz (hIS.rd.thru q (Nat.le_refl _)) (Nat.le_refl _) q.size (by omega)
          simp only [hSl, sameC_self] at hsame
          have hkind : ∀ W, Below w.heap.size w W → ∃ b off, A = some ⟨b, off, none⟩ ∧ W.cell? ⟨b, off + i * 5, none⟩ = some (.int .u8 (kindAt xs i)) := fun W q => by
            obtain ⟨b, off, h1, _, _, h2⟩ := name_cell HIN.out.rd (Nat.le_refl _) q hil
            exact ⟨b, off, h1, h2⟩
          have hiI : (i : Int) < xs.length := by omega
          have hnI2 : (((n - i : Nat) : Int) != wrap64 ((n : Int) - i)) = false := by
            have := he.2
            rw [wrap_small _ (by omega)]
            simp
            omega
          have HIT := Lib.hid hitems
          have HME := Lib.hid hmembers
          have HSA := Lib.hid hsame
          have HKI := Lib.hid hkind
          rw [hqe]
          have L6 := Lib.hid (items_sub hm hil)
          have L7 := Lib.hid (members_sub hm hil)
          have L0 := Lib.hid (leaf_sub hm hil)
          clear hm hil hml hne hqe he hSl hkl hitems hmembers hsame hkind hnw hsw hsl hNms hSets hsub hnam hIS hS howl hown htw hrk hvs hni hSm hlt hj hmx
          go_wp2_with fail
          refine k1c.mono ?_
          rintro e u1 ⟨rfl, hu1⟩
          have bu1 := bw.trans (hu1.mono bw.size)
          obtain ⟨bv, ov, hA, hkk⟩ := HKI.out u1 bu1
          subst hA
          by_cases h6 : kindAt xs i = 6
          · rw [h6] at hkk
            have hSl := F.out.2.2.2.2.2.2.1
            have p := HIT.out u1 hu1
            unfold PutPost at p
            rw [(L6.out h6).1, (L6.out h6).2, hSl] at p
            clear hSl
            go_wp2_with fail
            refine p.mono ?_
            rintro e u2 ⟨v, rfl, hoz, hu2⟩
            clear p
            obtain ⟨Az, cz, rfl, _, _⟩ := own_slice hoz
            have s := HSA.out u2 (hu1.trans (hu2.mono hu1.size)) Az cz (rd_ofK2 hoz)
            clear hoz
            go_wp2_with fail
            refine s.mono ?_
            rintro e u3 ⟨rfl, hu3⟩
            have bu2 := bu1.trans (hu2.mono bu1.size)
            go_wp2
            go_ret
            exact ⟨rfl, bu2.trans (hu3.mono bu2.size)⟩
          · by_cases h7 : kindAt xs i = 7
            · rw [h7] at hkk
              have hSl := F.out.2.2.2.2.2.2.1
              have p := HME.out u1 hu1
              unfold PutPost at p
              rw [(L7.out h7).1, (L7.out h7).2, hSl] at p
              clear hSl
              go_wp2_with fail
              refine p.mono ?_
              rintro e u2 ⟨v, rfl, hoz, hu2⟩
              clear p
              obtain ⟨Az, cz, rfl, _, _⟩ := own_slice hoz
              have s := HSA.out u2 (hu1.trans (hu2.mono hu1.size)) Az cz (rd_ofK2 hoz)
              clear hoz
              go_wp2_with fail
              refine s.mono ?_
              rintro e u3 ⟨rfl, hu3⟩
              have bu2 := bu1.trans (hu2.mono bu1.size)
              go_wp2
              go_ret
              exact ⟨rfl, bu2.trans (hu3.mono bu2.size)⟩
            · obtain ⟨m0, n1⟩ := L0.out h6 h7
              rw [F.out.2.2.1] at m0
              rw [F.out.2.2.2.2.2.2.1] at n1
              have m0I : ((m : Int) == 0) = true := by simp; omega
              have n1I : (((n - i : Nat) : Int) == 1) = true := by simp; omega
              have h6I : ((kindAt xs i : Int) == 6) = false := by simp; omega
              have h7I : ((kindAt xs i : Int) == 7) = false := by simp; omega
              clear m0 n1
              go_wp2
              go_ret
              exact ⟨rfl, bu1⟩
    · obtain ⟨V, hVV⟩ : ∃ V, askedC xs a = V := ⟨_, rfl⟩
      have c1 := fun W (q : Below w.heap.size w W) => sub_any A c a W (HIN.out.below q) hcx hcm
      have c2 := fun W (q : Below w.heap.size w W) => kids_any A c a W (HIN.out.below q) (.inl (by omega))
      have c3 := fun W (q : Below w.heap.size w W) => end_any A c a W (HIN.out.below q)
      have r1 : subR xs a = [] := by rw [subR, if_neg hV]
      have r2 : kidsR xs a = [] := by rw [kidsR, if_neg hV]
      have r3 : endR xs a = 0 := by rw [endR, if_neg hV]
      rw [hVV] at hV
      have hneB : (V != 0) = true := bne_iff_ne.2 hV
      simp only [r1, r2, r3, hVV] at c1 c2 c3
      clear hV hVV r1 r2 r3 hwx hlx HIN
      go_enter Tryd.func7, Tryd.ntmps7
      go_wp2_with fail
      refine al.mono ?_
      rintro e w1 ⟨rfl, hb1⟩
      go_wp2_with fail
      refine (g1 w1 hb1).mono ?_
      rintro e w2 ⟨rfl, rfl⟩
      go_wp2_with fail
      refine (c1 w2 hb1).mono ?_
      rintro e w3 ⟨v1, rfl, ho1, hb3⟩
      have b3 := hb1.trans (hb3.mono hb1.size)
      obtain ⟨A1, k1, rfl, _, _⟩ := own_slice ho1
      clear ho1
      go_wp2_with fail
      refine (c2 w3 b3).mono ?_
      rintro e w4 ⟨v2, rfl, ho2, hb4⟩
      have b4 := b3.trans (hb4.mono b3.size)
      obtain ⟨A2, k2, rfl, _, _⟩ := own_slice ho2
      clear ho2
      go_wp2_with fail
      refine (c3 w4 b4).mono ?_
      rintro e w5 ⟨rfl, hb5⟩
      have b5 := b4.trans (hb5.mono b4.size)
      clear c1 c2 c3 g1 al
      go_wp2
      go_ret
      exact ⟨rfl, b5⟩
end Go.Proofs.YtmaefhnlipcmoaaDoor
