/- OrderPuts: for any list and two strings, what was put is found in its place, and dropped again, and all else stays: the call returns true, and what came in reads as before. Conditions: none. -/
import Derived.Test.YtgicbpoicejmbaaRows
import Derived.Test.YtgicbpoicejmbaaAlive
import Derived.Test.YtgicbpoicejmbaaPlain
import Derived.Test.YtgicbpoicejmbaaOpen
import Derived.WalkKit
import Derived.ProofKit
namespace Go.Proofs.Ytgicbpoicejmbaa.orderPuts
open Go.ChangeShapes Go.WideShapes Go.ChangeAt Go.RowKit
open Go.ChangeMaps (open_string shut_string)

theorem same_one (a b : Bool) (h : a = b) : (a != b) = false := by rw [h]; cases b <;> rfl

set_option maxHeartbeats 4000000 in
set_option maxRecDepth 100000 in
theorem walk_bad (A : Option Addr) (c : Nat) (xs : List ByteArray) (s o : ByteArray) (w : World) (hx : Rd w w.heap.size A (sv xs)) (hn : xs.length ≤ maxLen) (hz : ∀ s ∈ xs, s.size ≤ maxLen) (ho : okB xs = false) :
    Calls Try.prog 5 #[.slice A xs.length c, .string s, .string o] w fun e w' => e = .returned (.bool true) ∧ Below w.heap.size w w' := by
  have HO := Lib.hid ho
  clear ho
  go_enter Try.func5, Try.ntmps5
  go_wp2_with fail
  refine (alive_any w).mono ?_
  rintro e w1 ⟨rfl, hb1⟩
  have hx1 := hx.below hb1 (Nat.le_refl _)
  have hs1 := hb1.size
  go_wp2_with fail
  refine (great_any A c xs w1 hx1 hn hz).mono ?_
  rintro e w2 ⟨b, rfl, rfl, hbb⟩
  cases b
  · by_cases hlen : 100 < xs.length
    · go_wp2
      go_ret
      exact ⟨rfl, hb1⟩
    · have hlen' : ¬ 100 < (xs.length : Int) := by omega
      go_wp2_with fail
      refine (put_any A c xs s w1 hx1 hn).mono ?_
      rintro e w2 ⟨v, rfl, hown, hb2⟩
      rw [show putC xs s = 8 by unfold putC; rw [if_neg (by rw [HO.out]; simp)]]
      rw [show putL xs s = [] by unfold putL; rw [if_neg (by rw [HO.out]; simp)]] at hown
      obtain ⟨A', c', rfl, _, _⟩ := own_slice hown
      have hb2' : Below w.heap.size w w2 := hb1.trans (hb2.mono hs1)
      have hx2 := hx.below hb2' (Nat.le_refl _)
      go_wp2_with fail
      refine (check_any A c xs w2 hx2 hn).mono ?_
      rintro e w3 ⟨rfl, n, rfl⟩
      rw [HO.out, show code false = 8 from rfl]
      go_wp2
      go_ret
      exact ⟨rfl, hb2'.drewN' _⟩
  · go_wp2
    go_ret
    exact ⟨rfl, hb1⟩

set_option maxHeartbeats 8000000 in
set_option maxRecDepth 100000 in
theorem walk_good (A : Option Addr) (c : Nat) (xs L D : List ByteArray) (s o : ByteArray) (had was now : Bool) (k : Nat) (w : World) (hx : Rd w w.heap.size A (sv xs)) (hn : xs.length ≤ 100) (hz : ∀ s ∈ xs, s.size ≤ maxLen)
    (ho : okB xs = true) (hp : putL xs s = L) (hp0 : putC xs s = 0) (hoL : okB L = true) (hhad : hasB xs s = had) (hk : before L s = k) (hL : hasB L s = true) (hkl : k < L.length) (hLk : L[k] = s)
    (hwas : hasB xs o = was) (hnow : hasB L o = now) (hsame : ((!o.toList == s.toList) = false) ∨ was = now) (hd : dropL L s = D) (hd0 : dropC L s = 0) (h1 : had = true → L = xs) (h2 : had = false → D = xs) :
    Calls Try.prog 5 #[.slice A xs.length c, .string s, .string o] w fun e w' => e = .returned (.bool true) ∧ Below w.heap.size w w' := by
  have hm : xs.length ≤ maxLen := by unfold maxLen; omega
  have hmL : L.length ≤ maxLen := by have := okB_len hoL; unfold maxLen; omega
  have HO := Lib.hid ho
  have HP := Lib.hid hp
  have HP0 := Lib.hid hp0
  have HOL := Lib.hid hoL
  have HHAD := Lib.hid hhad
  have HK := Lib.hid hk
  have HL := Lib.hid hL
  have HWAS := Lib.hid hwas
  have HNOW := Lib.hid hnow
  have HD := Lib.hid hd
  have HD0 := Lib.hid hd0
  have H1 := Lib.hid h1
  have H2 := Lib.hid h2
  have HLK := Lib.hid hLk
  have HS := Lib.hid hsame
  clear ho hp hp0 hoL hhad hk hL hwas hnow hd hd0 h1 h2 hLk hsame
  go_enter Try.func5, Try.ntmps5
  go_wp2_with fail
  refine (alive_any w).mono ?_
  rintro e w1 ⟨rfl, hb1⟩
  have hx1 := hx.below hb1 (Nat.le_refl _)
  have hs1 := hb1.size
  go_wp2_with fail
  refine (great_any A c xs w1 hx1 hm hz).mono ?_
  rintro e w2 ⟨b, rfl, rfl, hbb⟩
  clear hbb
  cases b
  · have hlen' : ¬ 100 < (xs.length : Int) := by omega
    go_wp2_with fail
    refine (put_any A c xs s w1 hx1 hm).mono ?_
    rintro e w2 ⟨v, rfl, hown, hb2⟩
    rw [HP0.out]
    rw [HP.out] at hown
    obtain ⟨A', c', rfl, hc1, hc2⟩ := own_slice hown
    have hb2' : Below w.heap.size w w2 := hb1.trans (hb2.mono hs1)
    have hx2 := hx.below hb2' (Nat.le_refl _)
    have hL2 := Rd.of_own hown
    have hs2 := hb2'.size
    clear hx1 hx hb2 hb1 hown
    go_wp2_with fail
    refine (find_yes A c xs s w2 hx2 HO.out).mono ?_
    rintro e w3 ⟨rfl, n3, hd3⟩
    have hbx := world_of ⟨n3, hd3⟩
    have hx3 := hx2.thru hbx (by omega)
    have hL3 := hL2.thru hbx (by omega)
    have hb3 := hb2'.trans (hbx.mono hs2)
    have hs3 := hb3.size
    have hs23 := hbx.size
    clear hd3 hbx hx2 hL2 hb2'
    rw [HHAD.out]
    go_wp2_with fail
    refine (find_yes A' c' L s w3 hL3 HOL.out).mono ?_
    rintro e w4 ⟨rfl, n4, hd4⟩
    have hbx := world_of ⟨n4, hd4⟩
    have hx4 := hx3.thru hbx (by omega)
    have hL4 := hL3.thru hbx (by omega)
    have hb4 := hb3.trans (hbx.mono hs3)
    have hs4 := hb4.size
    have hs34 := hbx.size
    clear hd4 hbx hx3 hL3 hb3
    rw [HK.out, HL.out]
    go_wp2_with fail
    refine (find_yes A c xs o w4 hx4 HO.out).mono ?_
    rintro e w5 ⟨rfl, n5, hd5⟩
    have hbx := world_of ⟨n5, hd5⟩
    have hx5 := hx4.thru hbx (by omega)
    have hL5 := hL4.thru hbx (by omega)
    have hb5 := hb4.trans (hbx.mono hs4)
    have hs5 := hb5.size
    have hs45 := hbx.size
    clear hd5 hbx hx4 hL4 hb4
    rw [HWAS.out]
    go_wp2_with fail
    refine (find_yes A' c' L o w5 hL5 HOL.out).mono ?_
    rintro e w6 ⟨rfl, n6, hd6⟩
    have hbx := world_of ⟨n6, hd6⟩
    have hx6 := hx5.thru hbx (by omega)
    have hL6 := hL5.thru hbx (by omega)
    have hb6 := hb5.trans (hbx.mono hs5)
    have hs6 := hb6.size
    have hs56 := hbx.size
    clear hd6 hbx hx5 hL5 hb5
    rw [HNOW.out]
    go_wp2_with fail
    refine (drop_any A' c' L s w6 hL6 hmL).mono ?_
    rintro e w7 ⟨v, rfl, hown, hbx⟩
    rw [HD0.out]
    rw [HD.out] at hown
    obtain ⟨A2, c2, rfl, _, _⟩ := own_slice hown
    have hx7 := hx6.thru hbx (by omega)
    have hL7 := hL6.thru hbx (by omega)
    have hD7 := Rd.of_own hown
    have hb7 := hb6.trans (hbx.mono hs6)
    have hs7 := hb7.size
    have hs67 := hbx.size
    clear hbx hx6 hL6 hb6 hown
    go_wp2_with fail
    refine (check_any A' c' L w7 hL7 hmL).mono ?_
    rintro e w8 ⟨rfl, n8, hd8⟩
    have hbx := world_of ⟨n8, hd8⟩
    have hx8 := hx7.thru hbx (by omega)
    have hL8 := hL7.thru hbx (by omega)
    have hD8 := hD7.thru hbx (by omega)
    have hb8 := hb7.trans (hbx.mono hs7)
    clear hd8 hbx hx7 hL7 hb7 hD7
    rw [HOL.out, show code true = 0 from rfl]
    obtain ⟨b, off, rfl, hbb, hc⟩ := hL8.str hkl
    have c1 := hc k hkl
    rw [HLK.out] at c1
    clear hc
    rcases HS.out with hso | hwn
    · cases had
      · have e2 := H2.out rfl
        clear H1 H2
        subst e2
        go_wp2_with fail
        refine (same_any A2 A c2 c _ _ w8 hD8 hx8 hm).mono ?_
        rintro e w9 ⟨rfl, n9, rfl⟩
        rw [decide_eq_true rfl]
        go_wp2
        go_ret
        exact ⟨rfl, hb8.drewN' _⟩
      · have e2 := H1.out rfl
        clear H1 H2
        subst e2
        go_wp2_with fail
        refine (same_any (some ⟨b, off, none⟩) A c' c _ _ w8 hL8 hx8 hm).mono ?_
        rintro e w9 ⟨rfl, n9, rfl⟩
        rw [decide_eq_true rfl]
        go_wp2
        go_ret
        exact ⟨rfl, hb8.drewN' _⟩
    · subst hwn
      have hne : (was != was) = false := by cases was <;> rfl
      by_cases hos : (!o.toList == s.toList) = true
      · cases had
        · have e2 := H2.out rfl
          clear H1 H2
          subst e2
          go_wp2_with fail
          refine (same_any A2 A c2 c _ _ w8 hD8 hx8 hm).mono ?_
          rintro e w9 ⟨rfl, n9, rfl⟩
          rw [decide_eq_true rfl]
          go_wp2
          go_ret
          exact ⟨rfl, hb8.drewN' _⟩
        · have e2 := H1.out rfl
          clear H1 H2
          subst e2
          go_wp2_with fail
          refine (same_any (some ⟨b, off, none⟩) A c' c _ _ w8 hL8 hx8 hm).mono ?_
          rintro e w9 ⟨rfl, n9, rfl⟩
          rw [decide_eq_true rfl]
          go_wp2
          go_ret
          exact ⟨rfl, hb8.drewN' _⟩
      · have hos' : (!o.toList == s.toList) = false := by simpa using hos
        clear hos
        · cases had
          · have e2 := H2.out rfl
            clear H1 H2
            subst e2
            go_wp2_with fail
            refine (same_any A2 A c2 c _ _ w8 hD8 hx8 hm).mono ?_
            rintro e w9 ⟨rfl, n9, rfl⟩
            rw [decide_eq_true rfl]
            go_wp2
            go_ret
            exact ⟨rfl, hb8.drewN' _⟩
          · have e2 := H1.out rfl
            clear H1 H2
            subst e2
            go_wp2_with fail
            refine (same_any (some ⟨b, off, none⟩) A c' c _ _ w8 hL8 hx8 hm).mono ?_
            rintro e w9 ⟨rfl, n9, rfl⟩
            rw [decide_eq_true rfl]
            go_wp2
            go_ret
            exact ⟨rfl, hb8.drewN' _⟩
  · go_wp2
    go_ret
    exact ⟨rfl, hb1⟩

set_option maxHeartbeats 2000000 in
set_option maxRecDepth 100000 in
theorem walk_long (A : Option Addr) (c : Nat) (xs : List ByteArray) (s o : ByteArray) (w : World) (hx : Rd w w.heap.size A (sv xs)) (hn : xs.length ≤ maxLen) (hz : ∀ s ∈ xs, s.size ≤ maxLen) (hl : 100 < xs.length) :
    Calls Try.prog 5 #[.slice A xs.length c, .string s, .string o] w fun e w' => e = .returned (.bool true) ∧ Below w.heap.size w w' := by
  go_enter Try.func5, Try.ntmps5
  go_wp2_with fail
  refine (alive_any w).mono ?_
  rintro e w1 ⟨rfl, hb1⟩
  have hx1 := hx.below hb1 (Nat.le_refl _)
  go_wp2_with fail
  refine (great_any A c xs w1 hx1 hn hz).mono ?_
  rintro e w2 ⟨b, rfl, rfl, hbb⟩
  clear hbb
  cases b
  · go_wp2
    go_ret
    exact ⟨rfl, hb1⟩
  · go_wp2
    go_ret
    exact ⟨rfl, hb1⟩

theorem walk (A : Option Addr) (c : Nat) (xs : List ByteArray) (s o : ByteArray) (w : World) (hx : Rd w w.heap.size A (sv xs)) (hn : xs.length ≤ maxLen) (hz : ∀ s ∈ xs, s.size ≤ maxLen) :
    Calls Try.prog 5 #[.slice A xs.length c, .string s, .string o] w fun e w' => e = .returned (.bool true) ∧ Below w.heap.size w w' := by
  by_cases ho : okB xs = true
  · by_cases hl : 100 < xs.length
    · exact walk_long A c xs s o w hx hn hz hl
    · obtain ⟨_, hp⟩ := okB_pw.1 ho
      by_cases hh : hasB xs s = true
      · have hlt := hasB_lt hh
        refine walk_good A c xs xs (xs.take (before xs s) ++ xs.drop (before xs s + 1)) s o true (hasB xs o) (hasB xs o) (before xs s) w hx (by omega) hz ho (by unfold putL; rw [if_pos ho, if_pos hh]) (by unfold putC; rw [if_pos ho, if_pos hh]) ho hh rfl hh hlt ?_ rfl rfl (.inr rfl) ?_ ?_ (fun _ => rfl) (fun h => by cases h)
        · rw [hasB_at hlt] at hh
          exact of_decide_eq_true hh
        · unfold dropL; rw [if_pos ho, if_pos hh]
        · unfold dropC; rw [if_pos ho, if_pos hh]
      · have hh' : hasB xs s = false := by simpa using hh
        have hns : s ∉ xs := fun h => hh ((has_mem hp).2 h)
        have hpL := ins_pw hp hns
        have hoL : okB (ins xs s) = true := okB_pw.2 ⟨by rw [ins_len]; omega, hpL⟩
        have hhL : hasB (ins xs s) s = true := (has_mem hpL).2 (ins_mem.2 (.inl rfl))
        have hne : xs.length ≠ 4096 := by omega
        have hb := before_le xs s
        obtain ⟨hlt, hat⟩ := List.getElem?_eq_some_iff.1 (ins_at xs s)
        refine walk_good A c xs (ins xs s) xs s o false (hasB xs o) (hasB (ins xs s) o) (before xs s) w hx (by omega) hz ho (by unfold putL; rw [if_pos ho, if_neg hh, if_neg hne]; rfl) (by unfold putC; rw [if_pos ho, if_neg hh, if_neg hne]) hoL hh' (ins_before xs s) hhL hlt hat rfl rfl ?_ ?_ ?_ (fun h => by cases h) (fun _ => rfl)
        · by_cases e : o = s
          · left; subst e; simp
          · right
            rw [Bool.eq_iff_iff, has_mem hp, has_mem hpL, ins_mem]
            exact ⟨fun h => .inr h, fun h => h.resolve_left e⟩
        · unfold dropL
          rw [if_pos hoL, if_pos hhL, ins_before]
          exact ins_drop xs s
        · unfold dropC; rw [if_pos hoL, if_pos hhL]
  · exact walk_bad A c xs s o w hx hn hz (by simpa using ho)

theorem own : ownKnob Try.prog.godebug = none := by kernel_rfl
theorem laidOut : laidOutB Try.prog = true := by kernel_rfl
set_option maxRecDepth 100000 in
theorem lifted (os : Os) (started : os.Started) (H : Type) (enc : TypeId × Value → H) :
    ReturnsInHanded {} Try.checked os 5 .any (Rows.orderPutsSpec.pre6 enc Try.prog Try.f5 Rows.orderPutsRow.domain false) (Rows.orderPutsSpec.post enc Try.prog Try.f5 false true false false) := by
  refine returnsInHanded_of_change_shaped (C := Try.checked) own started (by kernel_rfl) Try.func5
    (ChangeSpec.witness6 (enc := enc) (C := Try.checked) false ⟨#[], #[.slice none 0 0, .string ⟨#[]⟩, .string ⟨#[]⟩], []⟩ 8 (by kernel_rfl) (by kernel_rfl) (by kernel_rfl) (by kernel_rfl)) ?_
  intro W base args ds gs before hval0 hW _ hsz0 hsh0 _
  have hsh : W.ShapedOpen Try.prog := hsh0
  have hsz : (DataW.weightsEach Try.prog (Try.f5.params.toList ++ Rows.orderPutsSpec.plain.varTypes Try.prog) (ds ++ gs)).all (· ≤ reachBytes) = true := hsz0
  clear hsz0 hsh0
  have hval : ∀ (j : Nat) t v, Try.f5.params[j]? = some t → args[j]? = some v → Value.okWide Try.prog W .any base t v := hval0
  have hW' := hW
  obtain ⟨p, q, hA0, hV, rfl, hfz, hnd⟩ := hW
  have hA : DataW.TrodAll enc Try.prog W 0 (fun _ => true) true Try.f5.params.toList args.toList ds p := hA0
  rw [Try.params5] at hA hval hsz
  have hlt0 : ∀ x ∈ p, x.block < W.heap.size := fun x hx => hW'.lt x (by simp [hx])
  obtain ⟨v0, vs0, d0, ds0, p0, q0, hargs, rfl, rfl, h0, r0⟩ := trodAll_cons hA
  obtain ⟨v1, vs1, d1, ds1, p1, q1, rfl, rfl, rfl, h1, r1⟩ := trodAll_cons r0
  obtain ⟨v2, vs2, d2, ds2, p2, q2, rfl, rfl, rfl, h2, r2⟩ := trodAll_cons r1
  obtain ⟨rfl, rfl, rfl⟩ := trodAll_nil r2
  obtain rfl : args = #[v0, v1, v2] := by cases args; simp_all
  obtain ⟨rfl, rfl⟩ := trodVars_none hV
  obtain ⟨Al, cl, l, rfl, hl, ll, ml, zl, el⟩ := open_strs Try.underlying26 Try.underlying9 (by kernel_rfl) (hval 0 26 v0 rfl rfl) h0 (fun y hy => hlt0 y (by simp [hy]))
  have rl : l.length * 16 ≤ 140737488351232 := by
    rcases el with ⟨_, rfl⟩ | ⟨el, sp, rfl, hel⟩
    · simp
    · have := sized_slice hsz (j := 0) (t := 26) (e := 9) rfl rfl Try.underlying26
      rw [show Try.prog.bytesOf 9 = 16 by kernel_rfl] at this
      simp only [reachBytes] at this
      omega
  obtain ⟨s, rfl, rfl, rfl, ws⟩ := open_string Try.underlying9 (hval 1 9 v1 rfl rfl) h1
  have rs : s.size ≤ 140737488351232 := by
    have := sized_string hsz (j := 1) rfl rfl
    simpa [reachBytes] using this
  obtain ⟨o, rfl, rfl, rfl, wo⟩ := open_string Try.underlying9 (hval 2 9 v2 rfl rfl) h2
  have ro : o.size ≤ 140737488351232 := by
    have := sized_string hsz (j := 2) rfl rfl
    simpa [reachBytes] using this
  clear hA0 hval0
  refine (walk Al cl l s o W hl (by unfold maxLen; omega) zl).mono fun e W' ⟨he, hb⟩ => ⟨_, he, ?_⟩
  exact law_post laidOut (of_decide_eq_true (by kernel_rfl)) rfl rfl Try.underlying4 (fun ds hl => by
    match ds, hl with
    | [_, _, _], _ => rfl) hW' hb

theorem proved : Rows.OrderPutsSaid :=
  OpenClaim.holds_of_wide 5 Try.f5 rfl rfl rfl rfl rfl rfl rfl ⟨rfl, rfl, rfl, rfl, rfl⟩ rfl rfl rfl rfl rfl (by kernel_rfl) Try.func5 (by kernel_rfl)
    (of_decide_eq_true (by kernel_rfl)) (by unfold Func.isWrapper; first | (rw [if_pos (by decide +kernel)]; kernel_rfl) | (rw [if_neg (by decide +kernel)]; exact ⟨rfl, rfl⟩))
    (fun os started H enc _ => lifted os started H enc)
end Go.Proofs.Ytgicbpoicejmbaa.orderPuts
