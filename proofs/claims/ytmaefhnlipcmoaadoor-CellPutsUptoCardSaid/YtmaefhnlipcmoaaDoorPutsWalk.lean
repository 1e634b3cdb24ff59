/- The law CellPuts: the walk. Conditions: what the row's reach gives; names of at most 2,000,000 bytes; Go's two tables of utf8. The reference's Put, put, Items, Members: what they answer. Conditions: lengths within the model's, names of at most 2,000,000 bytes. -/
import Derived.Test.YtmaefhnlipcmoaaDoorRefG
import Derived.Test.YtmaefhnlipcmoaaDoorPartsL
import Derived.Deep.RegionHeld3
namespace Go.Proofs.YtmaefhnlipcmoaaDoor
open Go.RowKit
theorem ren_e0 {l : List Cel} (h : mayC l = true) : ren e0 l = l := by
  cases l with
  | nil => rfl
  | cons c r =>
    rw [mayC_cons] at h
    simp only [Bool.and_eq_true, decide_eq_true_eq] at h
    have := h.1.2
    simp only [ren]
    rw [← this]
theorem putL_wfM {M : Nat} {nm : Nat → ByteArray} {K : Nat} {xss : List (List Cel)} (h : ∀ l ∈ xss, ∀ c ∈ l, CelW M c) (hK : K ≤ 255) (hn : ∀ i, (nm i).size ≤ M) (hl : xss.length ≤ 2048) : ∀ c ∈ putL K nm xss, CelW M c := by
  intro c hc
  rw [putL, List.mem_cons] at hc
  rcases hc with rfl | hc
  · exact ⟨hK, by simp [headC, e0, ByteArray.size], by simp [headC, e0, ByteArray.size], by simp [headC], by simp [headC], by (simp [headC]; try omega), by (simp [headC]; try omega)⟩
  · exact bodyF_wf hn xss 0 h c hc
def PutRPost (w : World) (R : List Cel) (e : Ending) (w' : World) : Prop := ∃ v, e = .returned v ∧ w'.ownsRow w.heap.size 45 5 v R.length (cv R) ∧ Below w.heap.size w w'
set_option maxRecDepth 100000 in
set_option maxHeartbeats 4000000 in
theorem putR_any (K : Nat) (nm : Nat → ByteArray) (An A : Option Addr) (nn cn c : Nat) (xss : List (List Cel)) (w : World) {B : Nat} (hx : Sets w B A xss) (hB : B ≤ w.heap.size)
    (hl : ∀ l ∈ xss, mayC l = true) (hm : xss.length ≤ 2048) (hr : K ≠ 7 → ∀ i, nm i = e0)
    (hn : K = 7 → nn = xss.length ∧ ∀ i, i < xss.length → ∃ b off, An = some ⟨b, off, none⟩ ∧ b < w.heap.size ∧ w.cell? ⟨b, off + i, none⟩ = some (.string (nm i))) :
    Calls Tryd.prog 52 #[.int .u8 K, .slice An nn cn, .slice A xss.length c] w fun e w' => PutRPost w (putL K nm xss) e w' := by
  obtain ⟨n, hnn⟩ : ∃ n, xss.length = n := ⟨_, rfl⟩
  obtain ⟨i0, hi, hz0, hz1, hz2⟩ := info_parts info_cell
  have HI := Lib.hid (And.intro hi (And.intro hz0 (And.intro hz1 hz2)))
  have HX := Lib.hid hx
  have HL := Lib.hid hl
  have HR := Lib.hid hr
  have HN := Lib.hid hn
  have HE := Lib.hid hnn
  rw [hnn] at hm ⊢
  clear hx hl hr hn hnn hi hz0 hz1 hz2
  go_enter Tryd.func52, Tryd.ntmps52
  go_wp2
  go_loopw [7, 8] (fun vo vi wr => ∃ k L : Nat, k ≤ n ∧ vi = .int .i64 k ∧ L = (headC K n :: bodyF nm 0 (xss.take k)).length ∧ L ≤ 1 + k * 2048 ∧ wr.ownsRow w.heap.size 45 5 vo L (cv (headC K n :: bodyF nm 0 (xss.take k))) ∧ Below w.heap.size w wr) (fun _ vi _ => n - (intOf vi).toNat)
  case atStart => exact ⟨0, 1, Nat.zero_le _, rfl, rfl, by omega, own_new1 w (headC K n), (Below.refl _ _).alloc (Nat.le_refl _) _⟩
  case round =>
    obtain ⟨k, L, hk, rfl, hL, hLb, hown, hbr⟩ := hrel
    obtain ⟨A2, c2, rfl, hc2, hcm⟩ := own_slice hown
    obtain ⟨hi, hz0, hz1, hz2⟩ := HI.out
    have hbs := hbr.size
    by_cases hlt : k < n
    · have hkx : k < xss.length := by rw [HE.out]; exact hlt
      obtain ⟨b, off, A', c', hA, hbB, hcell, hrd⟩ := (HX.out.thru hbr hB).at' hkx
      subst hA
      have hmx := HL.out _ (List.getElem_mem hkx)
      obtain ⟨x, hxk⟩ : ∃ x, xss[k] = x := ⟨_, rfl⟩
      rw [hxk] at hcell hrd hmx
      have hx0 := mayC_pos hmx
      have hx1 := mayC_len hmx
      have t1 := twin_ref A' c' wr hrd (by omega)
      have HMX := Lib.hid hmx
      have HXK := Lib.hid hxk
      have HO := Lib.hid hown
      have HLL := Lib.hid hL
      have hkI : (k : Int) < n := by omega
      clear hmx hxk hown hL hrd
      go_wp2_with fail
      refine t1.mono ?_
      rintro e w1 ⟨v, rfl, ho1, hb1⟩
      clear t1
      have hb01 := hbr.trans (hb1.mono hbs)
      obtain ⟨g, c5, cur, rfl, q1, q2, q3, q4, q5, q6⟩ := own_some ho1 hx0
      have hcell5 : ∃ y, w1.cell? ⟨g, 1, none⟩ = some y := by
        refine ⟨cur[1]'(by rw [q5]; omega), ?_⟩
        rw [cell_of_row w1 g 1 _ _ (0, 0) q4, Array.getElem?_eq_getElem]
      obtain ⟨y, hy⟩ := hcell5
      have hfz : w1.frozen? ⟨g, 1, none⟩ = false := by simp [World.frozen?, q4]
      have hx0I : (0 : Int) < x.length := by omega
      have hout : headC K n :: bodyF nm 0 (xss.take (k + 1)) = (headC K n :: bodyF nm 0 (xss.take k)) ++ ren (nm k) x := by
        rw [bodyF_take nm xss k hkx, HXK.out]
        rfl
      have HOUT := Lib.hid hout
      have hcl : (cv (ren (nm k) x)).length = x.length * 5 := by rw [cv_len, ren_len]
      have hbn := hb01.size
      by_cases hK7 : K = 7
      · have hK7I : ((K : Int) == 7) = true := by rw [hK7]; rfl
        obtain ⟨hnn, hnc0⟩ := HN.out hK7
        clear hK7
        obtain ⟨b2, off2, hA2, hb2, hnc⟩ := hnc0 k hkx
        subst hA2
        have hnc1 : w1.cell? ⟨b2, off2 + k, none⟩ = some (.string (nm k)) := (hb01.cell (p := ⟨b2, off2 + k, none⟩) hb2).trans hnc
        have hkn : (k : Int) < nn := by omega
        have hbset : Below wr.heap.size wr (w1.setCell ⟨g, 1, none⟩ (.string (nm k))) := hb1.setCell q1 _
        have hO2 := own_below HO.out hbset (own_lt HO.out)
        have hX2 := rd_ofK2 (own_set ho1 1 (.string (nm k)) (by rw [cv_len]; omega))
        rw [← cv_ren _ x hx0] at hX2
        have hs2 : w.heap.size ≤ (w1.setCell ⟨g, 1, none⟩ (.string (nm k))).heap.size := Nat.le_trans hbs hbset.size
        have HBS := Lib.hid (hbr.trans (hbset.mono hbs))
        clear q4 q5 q6 ho1 hnc hnc0 hnn hout hbset
        go_wp2_with (at_builtin; refine wpList_append_rdK _ (by rfl) _ _ _ (by rfl) w.heap.size 45 i0 (.agg #[.int .u8 0, .string ⟨#[]⟩, .string ⟨#[]⟩, .int .i64 0, .int .i64 0]) 5 56 Tryd.underlying25 hi hz0 hz1 hz2 (by rfl) (by decide) (.slice A2 L c2) L (cv (headC K n :: bodyF nm 0 (xss.take k))) (by rfl) hO2 (some ⟨g, 0, none⟩) x.length c5 (cv (ren (nm k) x)) (by rfl) hX2 hcl cv_one (by unfold maxLen; omega) (by omega) hs2 ?_; intro v5 w2 ho2 hg2 hr2)
        have hb02 : Below w.heap.size w w2 := HBS.out.grown hg2 hs2 hr2
        go_roundw
        case rel =>
          refine ⟨k + 1, L + x.length, by omega, by go_num, ?_, by omega, ?_, hb02⟩
          · rw [HOUT.out, List.length_append, ren_len, ← HLL.out]
          · rw [HOUT.out, cv_app]
            exact ho2
        case measure => simp [intOf]; omega
      · have hK7I : ((K : Int) == 7) = false := by simp; omega
        have hre : ren (nm k) x = x := by rw [HR.out hK7 k]; exact ren_e0 HMX.out
        rw [hre] at hcl
        have hO2 := own_below HO.out hb1 (own_lt HO.out)
        have hX2 := rd_ofK2 ho1
        have HRE := Lib.hid hre
        clear q4 q5 q6 ho1 hout hre hK7
        go_wp2_with (at_builtin; refine wpList_append_rdK _ (by rfl) _ _ _ (by rfl) w.heap.size 45 i0 (.agg #[.int .u8 0, .string ⟨#[]⟩, .string ⟨#[]⟩, .int .i64 0, .int .i64 0]) 5 56 Tryd.underlying25 hi hz0 hz1 hz2 (by rfl) (by decide) (.slice A2 L c2) L (cv (headC K n :: bodyF nm 0 (xss.take k))) (by rfl) hO2 (some ⟨g, 0, none⟩) x.length c5 (cv x) (by rfl) hX2 hcl cv_one (by unfold maxLen; omega) (by omega) hbn ?_; intro v5 w2 ho2 hg2 hr2)
        have hb02 : Below w.heap.size w w2 := hb01.grown hg2 hbn hr2
        go_roundw
        case rel =>
          refine ⟨k + 1, L + x.length, by omega, by go_num, ?_, by omega, ?_, hb02⟩
          · rw [HOUT.out, HRE.out, List.length_append, ← HLL.out]
          · rw [HOUT.out, HRE.out, cv_app]
            exact ho2
        case measure => simp [intOf]; omega
    · have hkn : n = k := by omega
      subst hkn
      have hltd : decide ((n : Int) < n) = false := by simp
      have hP : headC K n :: bodyF nm 0 (xss.take n) = putL K nm xss := by rw [putL, List.take_of_length_le (by rw [HE.out]; omega), HE.out]
      rw [hP] at hown hL
      have HO := Lib.hid hown
      have HLL := Lib.hid hL
      clear hown hL hP
      go_wp2
      go_ret
      exact ⟨_, rfl, by rw [← HLL.out]; exact HO.out, hbr⟩
set_option maxRecDepth 100000 in
set_option maxHeartbeats 4000000 in
theorem putE_ref (K : Nat) (nm : Nat → ByteArray) (An A : Option Addr) (nn cn c : Nat) (xss : List (List Cel)) (w : World) {B : Nat} (hx : Sets w B A xss) (hB : B ≤ w.heap.size) (hK : K ≤ 255)
    (hl : ∀ l ∈ xss, l.length ≤ 1000000) (hw : ∀ l ∈ xss, ∀ c ∈ l, CelW 2000000 c) (hnm : ∀ i, (nm i).size ≤ 2000000) (hP : xss.length ≤ 2048 → (putL K nm xss).length ≤ 1000000) (hr : K ≠ 7 → ∀ i, nm i = e0)
    (hn : K = 7 → nn = xss.length ∧ ∀ i, i < xss.length → ∃ b off, An = some ⟨b, off, none⟩ ∧ b < w.heap.size ∧ w.cell? ⟨b, off + i, none⟩ = some (.string (nm i))) :
    Calls Tryd.prog 35 #[.int .u8 K, .slice An nn cn, .slice A xss.length c] w fun e w' => PutPost w (itemsR K nm xss) (putE K nm xss) e w' := by
  by_cases hm : 2048 < xss.length
  · have hE : putE K nm xss = 4 := by rw [putE, if_pos hm]
    have hR : itemsR K nm xss = [] := by rw [itemsR, hE]; rfl
    rw [hR, hE]
    have hmI : (2048 : Int) < xss.length := by omega
    clear hx hl hw hr hn hR hE hP hnm
    unfold PutPost
    go_enter Tryd.func35, Tryd.ntmps35
    go_wp2
    go_ret2
    exact ⟨_, rfl, World.ownsRow_nil _ _ _ _, Below.refl _ _⟩
  · have hm8 : xss.length ≤ 2048 := by omega
    have hPl := hP hm8
    obtain ⟨n, hnn⟩ : ∃ n, xss.length = n := ⟨_, rfl⟩
    have HX := Lib.hid (And.intro hx (And.intro hl (And.intro hw (And.intro hnm (And.intro hPl (And.intro hr (And.intro hn (And.intro hm8 hnn))))))))
    obtain ⟨R, hR⟩ : ∃ R, itemsR K nm xss = R := ⟨_, rfl⟩
    obtain ⟨V, hV⟩ : ∃ V, putE K nm xss = V := ⟨_, rfl⟩
    rw [hR, hV]
    have HR := Lib.hid hR
    have HV := Lib.hid hV
    have hmI : decide ((2048 : Int) < n) = false := by simp; omega
    rw [hnn]
    have hn48 : n ≤ 2048 := by omega
    clear hx hl hw hnm hP hPl hr hn hm hm8 hnn hR hV
    unfold PutPost
    go_enter Tryd.func35, Tryd.ntmps35
    go_wp2
    go_loopw [8] (fun vi wr => ∃ k : Nat, k ≤ n ∧ vi = .int .i64 k ∧ (∀ j (hj : j < xss.length), j < k → mayC xss[j] = true) ∧ Below w.heap.size w wr) (fun vi _ => n - (intOf vi).toNat)
    case atStart => exact ⟨0, Nat.zero_le _, rfl, fun j hj h => absurd h (by omega), Below.refl _ _⟩
    case round =>
      obtain ⟨k, hk, rfl, hall, hbr⟩ := hrel
      have hbs := hbr.size
      obtain ⟨hx, hl, hw, hnm, hPl, hr, hn, hm8, hnn⟩ := HX.out
      by_cases hlt : k < n
      · have hkx : k < xss.length := by omega
        obtain ⟨b, off, A', c', hA, hbB, hcell, hrd⟩ := (hx.thru hbr hB).at' hkx
        subst hA
        have c1 := may_ref A' c' wr hrd (by omega) (hl _ (List.getElem_mem hkx)) (hw _ (List.getElem_mem hkx))
        obtain ⟨x, hxk⟩ : ∃ x, xss[k] = x := ⟨_, rfl⟩
        rw [hxk] at hcell c1
        obtain ⟨W, hW⟩ : ∃ W, mayC x = W := ⟨_, rfl⟩
        rw [hW] at c1
        have HXK := Lib.hid hxk
        have HW := Lib.hid hW
        have HA := Lib.hid hall
        have hkI : (k : Int) < n := by omega
        clear hx hl hw hnm hPl hr hn hm8 hnn hrd hxk hW hall
        go_wp2_with fail
        refine c1.mono ?_
        rintro e w1 ⟨rfl, hb1⟩
        clear c1
        have hb01 := hbr.trans (hb1.mono hbs)
        cases W with
        | true =>
          go_wp2
          go_roundw
          case rel =>
            refine ⟨k + 1, by omega, by go_num, fun j hj h => ?_, hb01⟩
            by_cases e : j = k
            · subst e
              rw [HXK.out]
              exact HW.out
            · exact HA.out j hj (by omega)
          case measure => simp [intOf]; omega
        | false =>
          obtain ⟨hRR, hVV⟩ : R = [] ∧ V = 8 := by
            obtain ⟨hx, hl, hw, hnm, hPl, hr, hn, hm8, hnn⟩ := HX.out
            have hna := not_all (xss := xss) (k := k) (by omega) (by rw [HXK.out]; exact HW.out)
            have hE : putE K nm xss = 8 := by rw [putE, if_neg (by omega), hna]; rfl
            exact ⟨by rw [← HR.out, itemsR, hE]; rfl, by rw [← HV.out, hE]⟩
          subst hRR
          subst hVV
          go_wp2
          go_ret2
          exact ⟨_, rfl, World.ownsRow_nil _ _ _ _, hb01⟩
      · have hkn : n = k := by omega
        subst hkn
        have hltd : decide ((n : Int) < n) = false := by simp
        have hmay : ∀ l ∈ xss, mayC l = true := fun l hl' => by
          obtain ⟨j, hj, rfl⟩ := List.getElem_of_mem hl'
          exact hall j hj (by omega)
        have hE : putE K nm xss = checkC (putL K nm xss) := by rw [putE, if_neg (by omega), List.all_eq_true.2 hmay, if_pos rfl]
        have p1 := putR_any K nm An A nn cn c xss wr (hx.thru hbr hB) (by omega) hmay hm8 hr (fun h7 => ⟨(hn h7).1, fun i hi => by
          obtain ⟨b, off, h1, h2, h3⟩ := (hn h7).2 i hi
          exact ⟨b, off, h1, Nat.lt_of_lt_of_le h2 hbs, (hbr.cell (p := ⟨b, off + i, none⟩) h2).trans h3⟩⟩)
        have hwf : ∀ c ∈ putL K nm xss, CelW 2000000 c := putL_wfM hw hK hnm hm8
        have hrp : putR K nm xss = putL K nm xss := by rw [putR, if_neg (by omega), List.all_eq_true.2 hmay, if_pos rfl]
        obtain ⟨P, hPP⟩ : ∃ P, putL K nm xss = P := ⟨_, rfl⟩
        unfold PutRPost at p1
        rw [hPP, hnn] at p1
        rw [hPP] at hE hwf hrp hPl
        have c2 := fun (A3 : Option Addr) (c3 : Nat) (W : World) (hrd : Rd W W.heap.size A3 (cv P)) => may_ref A3 c3 W hrd (Nat.le_refl _) hPl hwf
        have hRV : R = (if mayC P = true then P else []) ∧ V = checkC P := by
          have e1 : V = checkC P := by rw [← HV.out, hE]
          refine ⟨?_, e1⟩
          rw [← HR.out, itemsR, hE, hrp, checkC]
          by_cases h : mayC P = true
          · rw [if_pos h, if_pos h, if_pos rfl]
          · rw [if_neg h, if_neg h, if_neg (by decide)]
        obtain ⟨W, hW⟩ : ∃ W, mayC P = W := ⟨_, rfl⟩
        rw [checkC, hW] at hRV
        simp only [hW] at c2
        have HRV := Lib.hid hRV
        have HPP := Lib.hid hPP
        clear hx hl hw hnm hr hn hm8 hnn hall hmay hE hwf hrp hPP hRV hW hPl
        go_wp2_with fail
        refine p1.mono ?_
        rintro e w1 ⟨v, rfl, ho, hb1⟩
        clear p1
        obtain ⟨A3, c3, rfl, hc3, hc3m⟩ := own_slice ho
        have hm3 := c2 A3 c3 w1 (rd_ofK2 ho)
        have HO := Lib.hid ho
        have hb01 := hbr.trans (hb1.mono hbs)
        clear ho c2
        go_wp2_with fail
        refine hm3.mono ?_
        rintro e w2 ⟨rfl, hb2⟩
        clear hm3
        have hb02 := hb01.trans (hb2.mono hb01.size)
        have ho2 := Lib.hid (own_base (own_below HO.out hb2 (own_lt HO.out)) hbs)
        cases W with
        | true =>
          obtain ⟨hRR, hVV⟩ : R = P ∧ V = 0 := ⟨by rw [HRV.out.1, if_pos rfl], by rw [HRV.out.2, if_pos rfl]⟩
          subst hRR
          subst hVV
          go_wp2
          go_ret2
          exact ⟨_, rfl, ho2.out, hb02⟩
        | false =>
          obtain ⟨hRR, hVV⟩ : R = [] ∧ V = 8 := ⟨by rw [HRV.out.1, if_neg (by decide)], by rw [HRV.out.2, if_neg (by decide)]⟩
          subst hRR
          subst hVV
          go_wp2
          go_ret2
          exact ⟨_, rfl, World.ownsRow_nil _ _ _ _, hb02⟩
theorem items_ref (A : Option Addr) (c : Nat) (xss : List (List Cel)) (w : World) {B : Nat} (hx : Sets w B A xss) (hB : B ≤ w.heap.size) (hl : ∀ l ∈ xss, l.length ≤ 1000000) (hw : ∀ l ∈ xss, ∀ c ∈ l, CelW 2000000 c) (hP : xss.length ≤ 2048 → (putL 6 nmE xss).length ≤ 1000000) :
    Calls Tryd.prog 11 #[.slice A xss.length c] w fun e w' => PutPost w (itemsR 6 nmE xss) (putE 6 nmE xss) e w' := by
  have hp := putE_ref 6 nmE none A 0 0 c xss w hx hB (by omega) hl hw (fun i => by simp [nmE, e0, ByteArray.size]) hP (fun _ _ => rfl) (fun h => absurd h (by decide))
  obtain ⟨V, hV⟩ : ∃ V, putE 6 nmE xss = V := ⟨_, rfl⟩
  obtain ⟨S, hS⟩ : ∃ S, itemsR 6 nmE xss = S := ⟨_, rfl⟩
  unfold PutPost at hp ⊢
  rw [hV, hS] at hp
  rw [hV, hS]
  clear hx hl hw hV hS hP
  go_enter Tryd.func11, Tryd.ntmps11
  go_wp2_with fail
  refine hp.mono ?_
  rintro e w1 ⟨v, rfl, ho, hb⟩
  have HO := Lib.hid ho
  clear hp ho
  go_wp2
  go_ret2
  exact ⟨_, rfl, HO.out, hb⟩
theorem membersR_any (ns : List ByteArray) (An : Option Addr) (cn : Nat) (A : Option Addr) (c : Nat) (xss : List (List Cel)) (w : World) {B : Nat} (hn : Rd w B An (sv ns)) (hx : Sets w B A xss) (hB : B ≤ w.heap.size) (hl : ∀ l ∈ xss, l.length ≤ 1000000) (hw : ∀ l ∈ xss, ∀ c ∈ l, CelW 2000000 c)
    (hns : ∀ n ∈ ns, n.size ≤ 2000000) (hlen : ns.length = xss.length) (hP : xss.length ≤ 2048 → (putL 7 (nmL ns) xss).length ≤ 1000000) :
    Calls Tryd.prog 13 #[.slice An ns.length cn, .slice A xss.length c] w fun e w' => PutPost w (itemsR 7 (nmL ns) xss) (putE 7 (nmL ns) xss) e w' := by
  have hp := putE_ref 7 (nmL ns) An A ns.length cn c xss w hx hB (by omega) hl hw (fun i => by
      unfold nmL
      rw [List.getD_eq_getElem?_getD]
      cases h : ns[i]? with
      | none => simp [e0, ByteArray.size]
      | some s => exact hns s (List.mem_of_getElem? h)) hP (fun h => absurd rfl h) (fun _ => ⟨hlen, fun i hi => by
      have hil : i < ns.length := by omega
      obtain ⟨b, off, e, hb, hc⟩ := hn.at' (k := i) (by rw [sv_len]; exact hil)
      refine ⟨b, off, e, by omega, ?_⟩
      rw [hc i (by rw [sv_len]; exact hil)]
      simp only [sv, List.getElem_map, nmL, List.getD_eq_getElem?_getD, List.getElem?_eq_getElem hil, Option.getD_some]⟩)
  obtain ⟨V, hV⟩ : ∃ V, putE 7 (nmL ns) xss = V := ⟨_, rfl⟩
  obtain ⟨S, hS⟩ : ∃ S, itemsR 7 (nmL ns) xss = S := ⟨_, rfl⟩
  obtain ⟨n, hnn⟩ : ∃ n, xss.length = n := ⟨_, rfl⟩
  unfold PutPost at hp ⊢
  rw [hlen, hV, hS, hnn] at hp
  rw [hlen, hV, hS, hnn]
  have hneI : ((n : Int) != n) = false := by simp
  clear hx hl hw hV hS hn hns hlen hnn hP
  go_enter Tryd.func13, Tryd.ntmps13
  go_wp2_with fail
  refine hp.mono ?_
  rintro e w1 ⟨v, rfl, ho, hb⟩
  have HO := Lib.hid ho
  clear hp ho
  go_wp2
  go_ret2
  exact ⟨_, rfl, HO.out, hb⟩
theorem membersR_ne (n m : Nat) (An : Option Addr) (cn : Nat) (A : Option Addr) (c : Nat) (w : World) (h : n ≠ m) :
    Calls Tryd.prog 13 #[.slice An n cn, .slice A m c] w fun e w' => PutPost w [] 2 e w' := by
  unfold PutPost
  have hI : ((n : Int) != m) = true := bne_iff_ne.2 (by omega)
  go_enter Tryd.func13, Tryd.ntmps13
  go_wp2
  go_ret2
  exact ⟨_, rfl, World.ownsRow_nil _ _ _ _, Below.refl _ _⟩
open Go.RowKit
theorem info_seg : (Tryd.prog.info? 25).map (fun i => (i.zero, i.size, i.bytes)) = some (some (.slice none 0 0), 1, 24) := by kernel_rfl
/-- a row of another element type stays, whatever is appended to a row -/
theorem own_other {w w' : World} {b b' n n' sz sz' : Nat} {e e' : TypeId} {v v' : Value} {xs xs' : List Value} (h : w.ownsRow b e sz v n xs) (h' : w.ownsRow b' e' sz' v' n' xs') (he : e ≠ e') (hg : w.grownBy w' v'.ownBlock) : w'.ownsRow b e sz v n xs := by
  refine ⟨h.1, ?_⟩
  rcases h.2 with h3 | ⟨g, cap, cur, rfl, hg', hh, r⟩
  · exact .inl h3
  · refine .inr ⟨g, cap, cur, rfl, hg', (hg.block g (Array.getElem?_eq_some_iff.1 hh).1 ?_).trans hh, r⟩
    intro hb
    rcases h'.2 with ⟨rfl, _⟩ | ⟨g2, cap2, cur2, rfl, _, hh2, _⟩
    · simp [Value.ownBlock] at hb
    · simp [Value.ownBlock] at hb
      subst hb
      rw [hh] at hh2
      simp at hh2
      exact he hh2.2
def Twins (w : World) (base : Nat) (vs : List Value) (xss : List (List Cel)) : Prop := ∀ (j : Nat) (h : j < vs.length) (h' : j < xss.length), w.ownsRow base 45 5 vs[j] xss[j].length (cv xss[j])
theorem Twins.sets {w : World} {base c : Nat} {A : Option Addr} {vs : List Value} {xss : List (List Cel)} (hv : vs.length = xss.length) (h : Twins w base vs xss) (hown : w.ownsRow base 25 1 (.slice A xss.length c) xss.length vs) : Sets w w.heap.size A xss := by
  rcases Rd.of_own hown with h0 | ⟨b, off, rfl, hb, hc⟩
  · left
    rw [h0] at hv
    exact List.eq_nil_of_length_eq_zero hv.symm
  · refine .inr ⟨b, off, rfl, hb, fun k hk => ?_⟩
    have ho := h k (by omega) hk
    obtain ⟨A', c', e, _, _⟩ : ∃ A' c', vs[k] = .slice A' xss[k].length c' ∧ xss[k].length ≤ c' ∧ True := by
      rcases ho.2 with ⟨h3, h4⟩ | ⟨g, cap, cur, h3, _, _, hn, _⟩
      · exact ⟨none, 0, by rw [h3, h4], by omega, trivial⟩
      · exact ⟨_, cap, h3, hn, trivial⟩
    rw [e] at ho
    exact ⟨A', c', by rw [hc k (by omega), e], rd_ofK2 ho⟩
theorem Twins.step {w w' : World} {base n sz : Nat} {e : TypeId} {v : Value} {vs us : List Value} {xss : List (List Cel)} (h : Twins w base vs xss) (hown : w.ownsRow base e sz v n us) (he : 45 ≠ e) (hg : w.grownBy w' v.ownBlock) : Twins w' base vs xss :=
  fun j hj hj' => own_other (h j hj hj') hown he hg
theorem Twins.below {w w' : World} {base : Nat} {vs : List Value} {xss : List (List Cel)} (h : Twins w base vs xss) (hb : Below w.heap.size w w') : Twins w' base vs xss :=
  fun j hj hj' => own_below (h j hj hj') hb (own_lt (h j hj hj'))
theorem Twins.add {w : World} {base : Nat} {vs : List Value} {v : Value} {xss : List (List Cel)} (h : Twins w base vs xss) {k : Nat} (hk : vs.length = k) (hl : k < xss.length) (ho : w.ownsRow base 45 5 v xss[k].length (cv xss[k])) : Twins w base (vs ++ [v]) xss := by
  subst hk
  intro j hj hj'
  by_cases hlt : j < vs.length
  · have e : (vs ++ [v])[j] = vs[j] := List.getElem_append_left hlt
    rw [e]
    exact h j hlt hj'
  · obtain rfl : j = vs.length := by simp at hj; omega
    simpa using ho
theorem members_ne (n m : Nat) (An : Option Addr) (cn : Nat) (A : Option Addr) (c : Nat) (w : World) (h : n ≠ m) :
    Calls Tryd.prog 12 #[.slice An n cn, .slice A m c] w fun e w' => PutPost w [] 2 e w' := by
  unfold PutPost
  have hb0 : Below w.heap.size w (w.alloc (.cells #[.slice An n cn] 22)) := (Below.refl _ _).alloc (Nat.le_refl _) _
  have hv0 : (w.alloc (.cells #[.slice An n cn] 22)).cell? ⟨w.heap.size, 0, none⟩ = some (.slice An n cn) := by simp only [World.cell?, heap_alloc_new]; rfl
  have hI : ((n : Int) != m) = true := bne_iff_ne.2 (by omega)
  go_enter Tryd.func12, Tryd.ntmps12
  go_wp2
  go_ret2
  exact ⟨_, rfl, World.ownsRow_nil _ _ _ _, hb0⟩
theorem puts_small {xs : List Cel} (hw : ∀ c ∈ xs, CelW maxLen c) (hg : greatC xs 100 = false) : xs.length ≤ 100 ∧ ∀ c ∈ xs, CelW 2000000 c := by
  obtain ⟨h1, h2⟩ := greatC_not hg
  refine ⟨h1, fun c hc => ?_⟩
  have a := hw c hc
  have b := h2 c hc
  exact ⟨a.kind, by omega, by omega, a.num0, a.num1, a.many0, a.many1⟩
theorem itemsR_len {K : Nat} {nm : Nat → ByteArray} {xss : List (List Cel)} (h : xss.length ≤ 2048 → (putL K nm xss).length ≤ 1000000) : (itemsR K nm xss).length ≤ 1000000 := by
  unfold itemsR putR
  split
  · split
    · simp
    · split
      · exact h (by omega)
      · simp
  · simp
theorem own_ne {w : World} {b1 b2 n1 n2 c1 c2 s1 s2 : Nat} {e1 e2 : TypeId} {A1 A2 : Option Addr} {xs1 xs2 : List Value} (h1 : w.ownsRow b1 e1 s1 (.slice A1 n1 c1) n1 xs1) {u : World} (h2 : u.ownsRow b2 e2 s2 (.slice A2 n2 c2) n2 xs2) (h : w.heap.size ≤ b2) :
    (Value.slice A2 n2 c2).ownBlock = none ∨ (Value.slice A2 n2 c2).ownBlock ≠ (Value.slice A1 n1 c1).ownBlock := by
  rcases A2 with _ | a2
  · left; rfl
  · right
    intro e
    have h3 := (h2.lt a2.block rfl).1
    have h4 := (h1.lt a2.block e.symm).2
    omega
theorem sameR_any {xs : List Cel} (A A' : Option Addr) (c c' : Nat) (w : World) {B B' : Nat} (hx : Rd w B A (cv xs)) (hy : Rd w B' A' (cv xs)) (hB : B ≤ w.heap.size) (hB' : B' ≤ w.heap.size) (hn : xs.length ≤ 1000000000) :
    Calls Tryd.prog 14 #[.slice A xs.length c, .slice A' xs.length c'] w fun e w' => e = .returned (.bool true) ∧ Below w.heap.size w w' := by
  have h := same_ref A A' c c' w hx hy hB hB' hn
  rwa [sameC_self] at h
set_option maxRecDepth 100000 in
set_option maxHeartbeats 8000000 in
theorem puts_walk (ns : List ByteArray) (An : Option Addr) (cn : Nat) (xss : List (List Cel)) (A : Option Addr) (c : Nat) (w : World) (hn : Rd w w.heap.size An (sv ns)) (hx : Sets w w.heap.size A xss) (hl : ∀ l ∈ xss, l.length ≤ maxLen) (hw : ∀ l ∈ xss, ∀ c ∈ l, CelW maxLen c) (hns : ∀ n ∈ ns, n.size ≤ 2000000) (hxl : xss.length ≤ maxLen) (hT : Tabs w) :
    Calls Tryd.prog 3 #[.slice An ns.length cn, .slice A xss.length c] w fun e w' => e = .returned (.bool true) ∧ Below w.heap.size w w' := by
  obtain ⟨n, hm⟩ : ∃ n, xss.length = n := ⟨_, rfl⟩
  obtain ⟨k0, hk0⟩ : ∃ k0, ns.length = k0 := ⟨_, rfl⟩
  have H := Lib.hid (And.intro hn (And.intro hx (And.intro hl (And.intro hw (And.intro hns (And.intro hxl (And.intro hT (And.intro hm hk0))))))))
  rw [hm, hk0]
  clear hn hx hl hw hns hxl hT hm hk0
  have early : ∀ (_ : ((20 : Int) < n ∧ (n : Int) ≤ 2048) ∨ (2100 : Int) < n ∨ (2100 : Int) < k0), Calls Tryd.prog 3 #[.slice An k0 cn, .slice A n c] w fun e w' => e = .returned (.bool true) ∧ Below w.heap.size w w' := by
    intro h
    rcases h with ⟨h1, h2⟩ | h | h
    · have h1I : decide ((20 : Int) < n) = true := decide_eq_true h1
      have h2I : decide ((n : Int) ≤ 2048) = true := decide_eq_true h2
      go_enter Tryd.func3, Tryd.ntmps3
      go_wp2
      go_ret
      exact ⟨rfl, Below.refl _ _⟩
    · have h1I : decide ((20 : Int) < n) = true := decide_eq_true (by omega)
      have h2I : decide ((n : Int) ≤ 2048) = false := decide_eq_false (by omega)
      have h3I : decide ((2100 : Int) < n) = true := decide_eq_true h
      go_enter Tryd.func3, Tryd.ntmps3
      go_wp2
      go_ret
      exact ⟨rfl, Below.refl _ _⟩
    · have h4I : decide ((2100 : Int) < k0) = true := decide_eq_true h
      by_cases h1 : (20 : Int) < n
      · have h1I : decide ((20 : Int) < n) = true := decide_eq_true h1
        by_cases h2 : (n : Int) ≤ 2048
        · have h2I : decide ((n : Int) ≤ 2048) = true := decide_eq_true h2
          go_enter Tryd.func3, Tryd.ntmps3
          go_wp2
          go_ret
          exact ⟨rfl, Below.refl _ _⟩
        · have h2I : decide ((n : Int) ≤ 2048) = false := decide_eq_false h2
          by_cases h3 : (2100 : Int) < n
          · have h3I : decide ((2100 : Int) < n) = true := decide_eq_true h3
            go_enter Tryd.func3, Tryd.ntmps3
            go_wp2
            go_ret
            exact ⟨rfl, Below.refl _ _⟩
          · have h3I : decide ((2100 : Int) < n) = false := decide_eq_false h3
            go_enter Tryd.func3, Tryd.ntmps3
            go_wp2
            go_ret
            exact ⟨rfl, Below.refl _ _⟩
      · have h1I : decide ((20 : Int) < n) = false := decide_eq_false h1
        have h3I : decide ((2100 : Int) < n) = false := decide_eq_false (by omega)
        go_enter Tryd.func3, Tryd.ntmps3
        go_wp2
        go_ret
        exact ⟨rfl, Below.refl _ _⟩
  by_cases hear : ((20 : Int) < n ∧ (n : Int) ≤ 2048) ∨ (2100 : Int) < n ∨ (2100 : Int) < k0
  · exact early hear
  · clear early
    have h4I : decide ((2100 : Int) < k0) = false := decide_eq_false (by omega)
    have h3I : decide ((2100 : Int) < n) = false := decide_eq_false (by omega)
    have hn21 : n ≤ 2100 := by omega
    have hsm : n ≤ 2048 → n ≤ 20 := by omega
    have HSM := Lib.hid hsm
    clear hear hsm
    obtain ⟨i1, hi1, hy0, hy1, hy2⟩ := info_parts info_seg
    have HI := Lib.hid (And.intro hi1 (And.intro hy0 (And.intro hy1 hy2)))
    clear hi1 hy0 hy1 hy2
    have hhead : (decide ((20 : Int) < n) = true ∧ decide ((n : Int) ≤ 2048) = false) ∨ decide ((20 : Int) < n) = false := by
      by_cases h1 : (20 : Int) < n
      · left
        refine ⟨decide_eq_true h1, decide_eq_false fun h2 => ?_⟩
        have := HSM.out (by omega)
        omega
      · right
        exact decide_eq_false h1
    rcases hhead with ⟨h1I, h2I⟩ | h1I
    all_goals
      go_enter Tryd.func3, Tryd.ntmps3
      go_wp2
      go_loopw [5, 6] (fun vo vi wr => ∃ (k : Nat) (vs : List Value), k ≤ n ∧ vs.length = k ∧ vi = .int .i64 k ∧ (∀ j (hj : j < xss.length), j < k → greatC xss[j] 100 = false) ∧ wr.ownsRow w.heap.size 25 1 vo k vs ∧ Twins wr w.heap.size vs xss ∧ Below w.heap.size w wr) (fun _ vi _ => n - (intOf vi).toNat)
      case atStart => exact ⟨0, [], Nat.zero_le _, rfl, rfl, fun j hj h => absurd h (by omega), World.ownsRow_nil _ _ _ _, fun j h => absurd h (Nat.not_lt_zero _), Below.refl _ _⟩
      case round =>
        obtain ⟨k, vs, hk, hvs, rfl, hgs, howl, htw, hbr⟩ := hrel
        have hbs := hbr.size
        obtain ⟨Al, cl, rfl, hcl, hclm⟩ := own_slice howl
        obtain ⟨hn, hx, hl, hw, hns, hxl, hT, hm, hk0⟩ := H.out
        by_cases hlt : k < n
        · have hkx : k < xss.length := by omega
          have hat : ∀ W, Below w.heap.size w W → ∃ b off A' c', A = some ⟨b, off, none⟩ ∧ W.cell? ⟨b, off + k, none⟩ = some (.slice A' xss[k].length c') ∧ Rd W w.heap.size A' (cv xss[k]) := fun W q => by
            obtain ⟨b, off, A', c', h1, _, h3, h4⟩ := (hx.thru q (Nat.le_refl _)).at' hkx
            exact ⟨b, off, A', c', h1, h3, h4⟩
          obtain ⟨b, off, A', c', hA, hcell, hrd⟩ := hat wr hbr
          subst hA
          have hlk := hl _ (List.getElem_mem hkx)
          have hwk := hw _ (List.getElem_mem hkx)
          have g := great_ref A' c' 100 wr hrd hlk (by omega)
          obtain ⟨x, hxe⟩ : ∃ x, xss[k] = x := ⟨_, rfl⟩
          rw [hxe] at hcell g hrd hwk
          obtain ⟨V, hV⟩ : ∃ V, greatC x 100 = V := ⟨_, rfl⟩
          rw [hV] at g
          have hkI : (k : Int) < n := by omega
          have tw := fun (_ : V = false) => twin_ref A' c' wr hrd (by have := (puts_small hwk (by rw [hV]; assumption)).1; omega)
          have P := Lib.hid (And.intro hxe (And.intro hV (And.intro hgs (And.intro htw hvs))))
          have HL := Lib.hid howl
          clear hn hx hl hw hns hxl hT hm hk0 hat hrd hxe hV hlk hwk hgs htw hvs howl
          go_wp2_with fail
          refine g.mono ?_
          rintro e w2 ⟨rfl, rfl⟩
          clear g
          cases V with
          | true =>
            clear tw
            go_wp2
            go_ret
            exact ⟨rfl, hbr⟩
          | false =>
            have tw1 := tw rfl
            clear tw
            go_wp2_with fail
            refine tw1.mono ?_
            rintro e w1 ⟨v, rfl, ho1, hb1⟩
            clear tw1
            have hb01 := hbr.trans (hb1.mono hbs)
            have hbn := hb01.size
            have hl1 := (own_below HL.out hb1 (own_lt HL.out)).alloc (.cells #[v] 25)
            have hX1 := Lib.hid ((own_base ho1 hbs).alloc (.cells #[v] 25))
            have ht1 := (P.out.2.2.2.1).below hb1
            have HT1 : Hid (Twins (w1.alloc (.cells #[v] 25)) w.heap.size vs xss) := Lib.hid fun j hj hj' => (ht1 j hj hj').alloc _
            obtain ⟨A1, c1, rfl, _, _⟩ := own_slice ho1
            have hone : ∀ u ∈ [Value.slice A1 x.length c1], u.oneCell' = true := by
              intro u hu
              simp at hu
              subst hu
              rfl
            have d1 : Below w.heap.size w (w1.alloc (.cells #[Value.slice A1 x.length c1] 25)) := hb01.alloc hbn _
            have hszA : w.heap.size ≤ (w1.alloc (.cells #[Value.slice A1 x.length c1] 25)).heap.size := by simp; omega
            obtain ⟨hi1, hy0, hy1, hy2⟩ := HI.out
            clear ho1 hb1 ht1
            go_wp2_with (at_builtin; refine wpList_append_rd _ (by rfl) _ _ _ (by rfl) w.heap.size 25 i1 (.slice none 0 0) 24 Tryd.underlying23 hi1 hy0 hy1 hy2 (by rfl) (.slice Al k cl) k vs (by rfl) hl1 (B := (w1.heap.size + 1)) (some ⟨w1.heap.size, 0, none⟩) 1 1 [Value.slice A1 x.length c1] (by rfl) (rd_new w1 #[Value.slice A1 x.length c1] 25 _ rfl) rfl hone (by unfold maxLen; omega) (by omega) hszA ?_; intro v2 u3 ho3 hg3 hr3)
            have d3 : Below w.heap.size w u3 := d1.grown hg3 hszA hr3
            go_roundw
            case rel =>
              obtain ⟨hxe, hV, hgs, htw, hvs⟩ := P.out
              refine ⟨k + 1, vs ++ [Value.slice A1 x.length c1], hlt, by simp [hvs], by go_num, fun j hj h => ?_, ho3, ?_, d3⟩
              · by_cases e : j = k
                · subst e
                  rw [hxe]
                  exact hV
                · exact hgs j hj (by omega)
              · refine Twins.add (HT1.out.step hl1 (by decide) hg3) hvs hkx ?_
                rw [hxe]
                exact own_other hX1.out hl1 (by decide) hg3
            case measure => simp [intOf]; omega
        · have hkn : n = k := by omega
          subst hkn
          have hltd : decide ((n : Int) < n) = false := by simp
          have hsmall : ∀ l ∈ xss, l.length ≤ 100 ∧ ∀ c ∈ l, CelW 2000000 c := fun l hl' => by
            obtain ⟨j, hj, rfl⟩ := List.getElem_of_mem hl'
            exact puts_small (hw _ hl') (hgs j hj (by omega))
          have hP : ∀ K nm, xss.length ≤ 2048 → (putL K nm xss).length ≤ 1000000 := fun K nm h => by
            have h20 := HSM.out (by omega)
            have := bodyF_len_le nm 100 xss 0 (fun l hl' => (hsmall l hl').1)
            rw [putL, List.length_cons]
            have h2 : xss.length * 100 ≤ 20 * 100 := Nat.mul_le_mul_right _ (by omega)
            omega
          have hS0 : Sets wr wr.heap.size Al xss := htw.sets (by rw [hvs, hm]) (by rw [hm]; exact howl)
          have bw : ∀ W, Below wr.heap.size wr W → Below w.heap.size w W := fun W q => hbr.trans (q.mono hbs)
          have c1 := items_any Al cl xss wr hS0 (Nat.le_refl _) (hT.below hbr) hl hw
          have c2 := fun W (q : Below wr.heap.size wr W) => items_ref A c xss W (hx.thru (bw W q) (Nat.le_refl _)) (bw W q).size (fun l hl' => by have := (hsmall l hl').1; omega) (fun l hl' => (hsmall l hl').2) (hP _ _)
          have hM : ∃ (R : List Cel) (V : Int), R.length ≤ 1000000 ∧ (∀ W, Below wr.heap.size wr W → Calls Tryd.prog 12 #[.slice An k0 cn, .slice Al n cl] W (fun e w' => PutPost W R V e w')) ∧
              (∀ W, Below wr.heap.size wr W → Calls Tryd.prog 13 #[.slice An k0 cn, .slice A n c] W (fun e w' => PutPost W R V e w')) := by
            by_cases he : ns.length = xss.length
            · refine ⟨itemsR 7 (nmL ns) xss, putE 7 (nmL ns) xss, itemsR_len (hP 7 (nmL ns)), fun W q => ?_, fun W q => ?_⟩
              · have := members_any ns An cn Al cl xss W ((hn.thru (bw W q) (Nat.le_refl _)).mono hbs) (hS0.thru q (Nat.le_refl _)) q.size (hT.below (bw W q)) hl hw (fun s hs => by have := hns s hs; unfold maxLen; omega) he hxl
                rwa [hm, hk0] at this
              · have := membersR_any ns An cn A c xss W (hn.thru (bw W q) (Nat.le_refl _)) (hx.thru (bw W q) (Nat.le_refl _)) (bw W q).size (fun l hl' => by have := (hsmall l hl').1; omega) (fun l hl' => (hsmall l hl').2) hns he (hP _ _)
                rwa [hm, hk0] at this
            · exact ⟨[], 2, by simp, fun W q => members_ne k0 n An cn Al cl W (by omega), fun W q => membersR_ne k0 n An cn A c W (by omega)⟩
          obtain ⟨R7, V7, hR7, c3, c4⟩ := hM
          obtain ⟨R6, hR6e⟩ : ∃ R, itemsR 6 nmE xss = R := ⟨_, rfl⟩
          obtain ⟨V6, hV6e⟩ : ∃ V, putE 6 nmE xss = V := ⟨_, rfl⟩
          have hR6 : R6.length ≤ 1000000 := by rw [← hR6e]; exact itemsR_len (hP 6 nmE)
          unfold PutPost at c1 c2 c3 c4
          simp only [hR6e, hV6e, hm] at c1 c2
          have HS := Lib.hid hS0
          have HC2 := Lib.hid c2
          have HC3 := Lib.hid c3
          have HC4 := Lib.hid c4
          have HSMALL := Lib.hid hsmall
          clear hn hx hl hw hns hxl hT hm hk0 hgs howl htw hvs hS0 c2 c3 c4 hsmall hP hR6e hV6e bw
          go_wp2_with fail
          refine c1.mono ?_
          rintro e u1 ⟨v1, rfl, ho1, hb1⟩
          clear c1
          obtain ⟨A1, k1, rfl, _, _⟩ := own_slice ho1
          have HO1 := Lib.hid ho1
          clear ho1
          go_wp2_with fail
          refine (HC2.out u1 hb1).mono ?_
          rintro e u2 ⟨v2, rfl, ho2, hb2⟩
          have d2 := hb1.trans (hb2.mono hb1.size)
          obtain ⟨A2, k2, rfl, _, _⟩ := own_slice ho2
          have HO2 := Lib.hid ho2
          clear ho2
          go_wp2_with fail
          refine (HC3.out u2 d2).mono ?_
          rintro e u3 ⟨v3, rfl, ho3, hb3⟩
          have d3 := d2.trans (hb3.mono d2.size)
          obtain ⟨A3, k3, rfl, _, _⟩ := own_slice ho3
          have HO3 := Lib.hid ho3
          clear ho3
          go_wp2_with fail
          refine (HC4.out u3 d3).mono ?_
          rintro e u4 ⟨v4, rfl, ho4, hb4⟩
          have d4 := d3.trans (hb4.mono d3.size)
          obtain ⟨A4, k4, rfl, _, _⟩ := own_slice ho4
          have HO4 := Lib.hid ho4
          clear ho4
          have s13 : Below u1.heap.size u1 u3 := hb2.trans (hb3.mono hb2.size)
          have s14 : Below u1.heap.size u1 u4 := s13.trans (hb4.mono s13.size)
          have s24 : Below u2.heap.size u2 u4 := hb3.trans (hb4.mono hb3.size)
          have e1 := own_below HO1.out s14 (own_lt HO1.out)
          have e2 := own_below HO2.out s24 (own_lt HO2.out)
          have e3 := own_below HO3.out hb4 (own_lt HO3.out)
          have m1 := sameR_any A1 A2 k1 k2 u4 (rd_ofK2 e1) (rd_ofK2 e2) (Nat.le_refl _) (Nat.le_refl _) (by omega)
          have E1 := Lib.hid e1
          have E3 := Lib.hid e3
          clear e1 e2 e3 HC2 HC3 HC4
          go_wp2_with fail
          refine m1.mono ?_
          rintro e u5 ⟨rfl, hb5⟩
          clear m1
          have m2 := sameR_any A3 A4 k3 k4 u5 ((rd_ofK2 E3.out).thru hb5 (Nat.le_refl _)) ((rd_ofK2 HO4.out).thru hb5 (Nat.le_refl _)) hb5.size hb5.size (by omega)
          go_wp2_with fail
          refine m2.mono ?_
          rintro e u6 ⟨rfl, hb6⟩
          clear m2
          have s46 : Below u4.heap.size u4 u6 := hb5.trans (hb6.mono hb5.size)
          have d6 := d4.trans (s46.mono d4.size)
          have f1 := own_below E1.out s46 (own_lt E1.out)
          have p1 := spoil_any u6 f1 (by omega)
          have F1 := Lib.hid f1
          clear f1
          go_wp2_with fail
          refine p1.mono ?_
          rintro e z1 ⟨rfl, hz1, hg1⟩
          clear p1
          have f3 := own_below E3.out s46 (own_lt E3.out)
          have hne := own_ne HO1.out HO3.out hb2.size
          have p3 := spoil_any z1 (f3.kept hg1 hne) (by omega)
          clear f3 hne
          go_wp2_with fail
          refine p3.mono ?_
          rintro e z2 ⟨rfl, hz2, hg2⟩
          clear p3
          have d7 : Below wr.heap.size wr z1 := d6.trans (hz1.mono (Nat.le_refl _))
          have d8 : Below wr.heap.size wr z2 := d7.trans (hz2.mono (Nat.le_trans hb1.size hb2.size))
          have w8 := hbr.trans (d8.mono hbs)
          clear hg1 hg2 hz1 hz2 HO1 HO2 HO3 HO4 E1 E3 F1
          obtain ⟨wo, rfl⟩ : ∃ wo, wo = wr := ⟨_, rfl⟩
          go_wp2
          go_loopw [16] (fun vi wq => ∃ j : Nat, j ≤ n ∧ vi = .int .i64 j ∧ Below z2.heap.size z2 wq) (fun vi _ => n - (intOf vi).toNat)
          case atStart => exact ⟨0, Nat.zero_le _, rfl, Below.refl _ _⟩
          case round =>
            obtain ⟨j, hj, rfl, hq⟩ := hrel
            by_cases hjl : j < n
            · obtain ⟨hn, hx, hl, hw, hns, hxl, hT, hm, hk0⟩ := H.out
              have hjx : j < xss.length := by omega
              have q8 := d8.trans (hq.mono d8.size)
              have qw := w8.trans (hq.mono w8.size)
              obtain ⟨bo, oo, Ao, co, hAo, hbo, hco, hro⟩ := (HS.out.thru q8 (Nat.le_refl _)).at' hjx
              obtain ⟨b, off, A', c', hA, hb, hcell, hrd⟩ := (hx.thru qw (Nat.le_refl _)).at' hjx
              subst hAo
              subst hA
              have hxl100 := (HSMALL.out _ (List.getElem_mem hjx)).1
              obtain ⟨x, hxe⟩ : ∃ x, xss[j] = x := ⟨_, rfl⟩
              rw [hxe] at hco hro hcell hrd hxl100
              have hs := fun W (q : Below wr.heap.size wr W) => (sameR_any Ao A' co c' W (hro.thru q q8.size) (hrd.thru q qw.size) (Nat.le_trans q8.size q.size) (Nat.le_trans qw.size q.size) (by omega)).mono (R' := fun e w' => e = .returned (.bool true) ∧ Below wr.heap.size wr w') fun e w' h => ⟨h.1, q.trans (h.2.mono q.size)⟩
              have HK : ∀ W, Below wr.heap.size wr W → W.cell? ⟨bo, oo + j, none⟩ = some (.slice Ao x.length co) ∧ W.cell? ⟨b, off + j, none⟩ = some (.slice A' x.length c') := fun W q =>
                ⟨(q.cell (p := ⟨bo, oo + j, none⟩) (Nat.lt_of_lt_of_le hbo q8.size)).trans hco, (q.cell (p := ⟨b, off + j, none⟩) (Nat.lt_of_lt_of_le hb qw.size)).trans hcell⟩
              have HKK := Lib.hid HK
              have HSS := Lib.hid hs
              have hjI : (j : Int) < n := by omega
              clear hn hx hl hw hns hxl hT hm hk0 hro hrd hxe HK hs
              go_wp2
              go_region_held3 (fun W => W.cell? ⟨bo, oo + j, none⟩ = some (.slice Ao x.length co) ∧ W.cell? ⟨b, off + j, none⟩ = some (.slice A' x.length c'))
                (exact HKK.out _ (by repeat (first | assumption | exact Below.refl _ _ | refine Below.drew ?_)))
                ((go_at_call 14; (with_reducible refine (HSS.out _ ?_).mono ?_); (repeat (first | assumption | exact Below.refl _ _ | refine Below.drew ?_)); rintro e w5 ⟨rfl, hb5⟩))
              go_wp2
              go_roundw
              case rel => exact ⟨j + 1, hjl, by go_num, hq.trans (hb5.mono hq.size)⟩
              case measure => simp [intOf]; omega
            · have hjn : n = j := by omega
              subst hjn
              have hltd : decide ((n : Int) < n) = false := by simp
              go_wp2
              go_ret
              exact ⟨rfl, w8.trans (hq.mono w8.size)⟩
end Go.Proofs.YtmaefhnlipcmoaaDoor
