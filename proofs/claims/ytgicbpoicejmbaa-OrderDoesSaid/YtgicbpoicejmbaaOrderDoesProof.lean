/- OrderDoes: where a string is, or would be, a list with it, without it, and some as a list, or the errors, are the document's; what was handed in stays: the call returns true, and what came in reads as before. Conditions: none. -/
import Derived.Test.YtgicbpoicejmbaaRows
import Derived.Test.YtgicbpoicejmbaaRefSp
import Derived.Test.YtgicbpoicejmbaaOpen
import Derived.WalkKit
import Derived.ProofKit
namespace Go.Proofs.Ytgicbpoicejmbaa.orderDoes
open Go.ChangeShapes Go.WideShapes Go.ChangeAt Go.RowKit
open Go.ChangeMaps (open_string shut_string)
theorem apart {v v' : Value} {B1 B2 : Nat} (h1 : ∀ g, v.ownBlock = some g → g < B1) (h2 : ∀ g, v'.ownBlock = some g → B2 ≤ g) (hB : B1 ≤ B2) : v.ownBlock = none ∨ v.ownBlock ≠ v'.ownBlock := by
  cases h : v.ownBlock with
  | none => exact .inl rfl
  | some g =>
    right
    intro e
    have := h1 g h
    have := h2 g e.symm
    omega
theorem apart' {v v' : Value} {B1 B2 : Nat} (h1 : ∀ g, v.ownBlock = some g → g < B1) (h2 : ∀ g, v'.ownBlock = some g → B2 ≤ g) (hB : B1 ≤ B2) : v'.ownBlock = none ∨ v'.ownBlock ≠ v.ownBlock := by
  rcases apart h1 h2 hB with h | h
  · cases h' : v'.ownBlock with
    | none => exact .inl rfl
    | some g => exact .inr (by rw [h]; simp)
  · exact .inr fun e => h e.symm
theorem putL_len (xs : List ByteArray) (s : ByteArray) : (putL xs s).length ≤ xs.length + 1 := by
  unfold putL
  have := before_le xs s
  repeat' split
  all_goals simp
  all_goals omega
theorem dropL_len (xs : List ByteArray) (s : ByteArray) : (dropL xs s).length ≤ xs.length := by
  unfold dropL
  have := before_le xs s
  repeat' split
  all_goals simp
  all_goals omega
theorem sortL_len (xs : List ByteArray) : (sortL xs).length ≤ xs.length := by
  unfold sortL
  split
  · exact sortB_len xs
  · simp
theorem find_all (A : Option Addr) (c : Nat) (xs : List ByteArray) (s : ByteArray) (w : World) {E : Nat} (hx : Rd w E A (sv xs)) (hn : xs.length ≤ maxLen) :
    Calls Try.prog 15 #[.slice A xs.length c, .string s] w fun e w' => e = .returned (.tuple #[.int .i64 (if okB xs = true then (before xs s : Nat) else 0), .bool (okB xs && hasB xs s)]) ∧ ∃ n, w' = w.drewN n := by
  by_cases h : okB xs = true
  · rw [if_pos h, h, Bool.true_and]
    exact find_yes A c xs s w hx h
  · rw [if_neg h, show okB xs = false by simpa using h, Bool.false_and]
    exact find_no A c xs s w hx hn (by simpa using h)
set_option maxHeartbeats 8000000 in
set_option maxRecDepth 100000 in
theorem walk (A : Option Addr) (c : Nat) (xs : List ByteArray) (s : ByteArray) (w : World) (hl : Rd w w.heap.size A (sv xs)) (hc : xs.length ≤ c) (hm : xs.length ≤ maxLen) (hz : ∀ s ∈ xs, s.size ≤ maxLen) (hs1 : s.size ≤ maxLen) :
    Calls Try.prog 7 #[.slice A xs.length c, .string s] w fun e w' => e = .returned (.bool true) ∧ Below w.heap.size w w' := by
  have lp0 := putL_len xs s
  have ld0 := dropL_len xs s
  have ls0 := sortL_len xs
  go_enter Try.func7, Try.ntmps7
  go_wp2_with fail
  refine (great_any A c xs w hl hm hz).mono ?_
  rintro e w0 ⟨b, rfl, rfl, hgr⟩
  cases b
  case true =>
    go_wp2
    go_ret
    exact ⟨rfl, Below.refl _ _⟩
  case false =>
    have hn : xs.length ≤ 4200 := by
      rcases hgr rfl with h | h <;> omega
    have lp : (putL xs s).length ≤ maxLen := by unfold maxLen; omega
    have ld : (dropL xs s).length ≤ maxLen := by unfold maxLen; omega
    have ls : (sortL xs).length ≤ maxLen := by unfold maxLen; omega
    clear hgr lp0 ld0 ls0
    unfold maxLen at hs1
    by_cases hbig : 1000 < s.size
    · have hbig' : (1000 : Int) < s.size := by omega
      go_wp2
      go_ret
      exact ⟨rfl, Below.refl _ _⟩
    have hbig' : ¬ (1000 : Int) < s.size := by omega
    replace hs1 : s.size ≤ maxLen := hs1
    obtain ⟨N, hN⟩ : ∃ N : Int, (if okB xs = true then ((before xs s : Nat) : Int) else 0) = N := ⟨_, rfl⟩
    obtain ⟨M, hM⟩ : ∃ M : Bool, (okB xs && hasB xs s) = M := ⟨_, rfl⟩
    have kf : ∀ (A' : Option Addr) (c' : Nat) (W : World) {E : Nat}, Rd W E A' (sv xs) → Calls Try.prog 15 #[.slice A' xs.length c', .string s] W fun e w' => e = .returned (.tuple #[.int .i64 N, .bool M]) ∧ ∃ n, w' = W.drewN n := fun A' c' W E h => by
      have := find_all A' c' xs s W h hm
      rw [hN, hM] at this
      exact this
    have kr : ∀ (A' : Option Addr) (c' : Nat) (W : World) {E : Nat}, Rd W E A' (sv xs) → Calls Try.prog 20 #[.slice A' xs.length c', .string s] W fun e w' => e = .returned (.tuple #[.int .i64 N, .bool M]) ∧ ∃ n, w' = W.drewN n := fun A' c' W E h => by
      have := reffind_any A' c' xs s W h (by omega) hz hs1
      rw [hN, hM] at this
      exact this
    clear hN hM
    have hbw : Below w.heap.size w w := Below.refl _ _
    go_wp2_with fail
    refine (reftwin_any A c xs w hl (by omega)).mono ?_
    rintro e w1 ⟨v, rfl, ho, hb⟩
    replace hl := hl.thru hb (by omega)
    replace hbw : Below w.heap.size w w1 := hbw.trans (hb.mono (by omega))
    have z_w1 : w.heap.size ≤ w1.heap.size := hbw.size
    have y_w1 : w.heap.size ≤ w1.heap.size := hb.size
    obtain ⟨Ao, co, rfl, co1, co2⟩ := own_slice ho
    have lt_ho := own_lt ho
    have ge_ho := own_ge ho
    clear hb
    go_wp2_with fail
    refine (kf Ao co w1 (Rd.of_own ho)).mono ?_
    rintro e w2 ⟨rfl, n2, hq⟩
    have hb := world_of ⟨_, hq⟩
    clear hq
    replace hl := hl.thru hb (by omega)
    replace ho := own_below ho hb (own_lt ho)
    replace hbw : Below w.heap.size w w2 := hbw.trans (hb.mono (by omega))
    have z_w2 : w.heap.size ≤ w2.heap.size := hbw.size
    have y_w2 : w1.heap.size ≤ w2.heap.size := hb.size
    clear hb
    go_wp2_with fail
    refine (kr A c w2 hl).mono ?_
    rintro e w3 ⟨rfl, n3, hq⟩
    have hb := world_of ⟨_, hq⟩
    clear hq
    replace hl := hl.thru hb (by omega)
    replace ho := own_below ho hb (own_lt ho)
    replace hbw : Below w.heap.size w w3 := hbw.trans (hb.mono (by omega))
    have z_w3 : w.heap.size ≤ w3.heap.size := hbw.size
    have y_w3 : w2.heap.size ≤ w3.heap.size := hb.size
    clear hb
    go_wp2_with fail
    refine (put_any Ao co xs s w3 (Rd.of_own ho) hm).mono ?_
    rintro e w4 ⟨v, rfl, ha, hb⟩
    replace hl := hl.thru hb (by omega)
    replace ho := own_below ho hb (own_lt ho)
    replace hbw : Below w.heap.size w w4 := hbw.trans (hb.mono (by omega))
    have z_w4 : w.heap.size ≤ w4.heap.size := hbw.size
    have y_w4 : w3.heap.size ≤ w4.heap.size := hb.size
    obtain ⟨Aa, ca, rfl, _, _⟩ := own_slice ha
    have lt_ha := own_lt ha
    have ge_ha := own_ge ha
    clear hb
    go_wp2_with fail
    refine (refput_any A c xs s w4 hl (by omega) (by omega) hc hz hs1).mono ?_
    rintro e w5 ⟨v, rfl, hbb, hb⟩
    replace hl := hl.thru hb (by omega)
    replace ho := own_below ho hb (own_lt ho)
    replace ha := own_below ha hb (own_lt ha)
    replace hbw : Below w.heap.size w w5 := hbw.trans (hb.mono (by omega))
    have z_w5 : w.heap.size ≤ w5.heap.size := hbw.size
    have y_w5 : w4.heap.size ≤ w5.heap.size := hb.size
    obtain ⟨Ab, cb, rfl, _, _⟩ := own_slice hbb
    clear hb
    go_wp2_with fail
    refine (drop_any Ao co xs s w5 (Rd.of_own ho) hm).mono ?_
    rintro e w6 ⟨v, rfl, hcc, hb⟩
    replace hl := hl.thru hb (by omega)
    replace ho := own_below ho hb (own_lt ho)
    replace ha := own_below ha hb (own_lt ha)
    replace hbb := own_below hbb hb (own_lt hbb)
    replace hbw : Below w.heap.size w w6 := hbw.trans (hb.mono (by omega))
    have z_w6 : w.heap.size ≤ w6.heap.size := hbw.size
    have y_w6 : w5.heap.size ≤ w6.heap.size := hb.size
    obtain ⟨Ac, cc, rfl, _, _⟩ := own_slice hcc
    have lt_hcc := own_lt hcc
    have ge_hcc := own_ge hcc
    clear hb
    go_wp2_with fail
    refine (refdrop_any A c xs s w6 hl (by omega) (by omega) hc hz hs1).mono ?_
    rintro e w7 ⟨v, rfl, hd, hb⟩
    replace hl := hl.thru hb (by omega)
    replace ho := own_below ho hb (own_lt ho)
    replace ha := own_below ha hb (own_lt ha)
    replace hbb := own_below hbb hb (own_lt hbb)
    replace hcc := own_below hcc hb (own_lt hcc)
    replace hbw : Below w.heap.size w w7 := hbw.trans (hb.mono (by omega))
    have z_w7 : w.heap.size ≤ w7.heap.size := hbw.size
    have y_w7 : w6.heap.size ≤ w7.heap.size := hb.size
    obtain ⟨Ad, cd, rfl, _, _⟩ := own_slice hd
    clear hb
    go_wp2_with fail
    refine (sort_any Ao co xs w7 (Rd.of_own ho) (Nat.le_refl _) hm).mono ?_
    rintro e w8 ⟨v, rfl, hp, hb⟩
    replace hl := hl.thru hb (by omega)
    replace ho := own_below ho hb (own_lt ho)
    replace ha := own_below ha hb (own_lt ha)
    replace hbb := own_below hbb hb (own_lt hbb)
    replace hcc := own_below hcc hb (own_lt hcc)
    replace hd := own_below hd hb (own_lt hd)
    replace hbw : Below w.heap.size w w8 := hbw.trans (hb.mono (by omega))
    have z_w8 : w.heap.size ≤ w8.heap.size := hbw.size
    have y_w8 : w7.heap.size ≤ w8.heap.size := hb.size
    obtain ⟨Ap, cp, rfl, _, _⟩ := own_slice hp
    have lt_hp := own_lt hp
    have ge_hp := own_ge hp
    clear hb
    go_wp2_with fail
    refine (refsort_any A c xs w8 hl (by omega) hm hz).mono ?_
    rintro e w9 ⟨v, rfl, hqq, hb⟩
    replace hl := hl.thru hb (by omega)
    replace ho := own_below ho hb (own_lt ho)
    replace ha := own_below ha hb (own_lt ha)
    replace hbb := own_below hbb hb (own_lt hbb)
    replace hcc := own_below hcc hb (own_lt hcc)
    replace hd := own_below hd hb (own_lt hd)
    replace hp := own_below hp hb (own_lt hp)
    replace hbw : Below w.heap.size w w9 := hbw.trans (hb.mono (by omega))
    have z_w9 : w.heap.size ≤ w9.heap.size := hbw.size
    have y_w9 : w8.heap.size ≤ w9.heap.size := hb.size
    obtain ⟨Aq, cq, rfl, _, _⟩ := own_slice hqq
    clear hb
    go_wp2_with fail
    refine (same_any Aa Ab ca cb (putL xs s) (putL xs s) w9 (Rd.of_own ha) (Rd.of_own hbb) lp).mono ?_
    rintro e w10 ⟨rfl, n10, hq⟩
    have hb := world_of ⟨_, hq⟩
    clear hq
    replace hl := hl.thru hb (by omega)
    replace ho := own_below ho hb (own_lt ho)
    replace ha := own_below ha hb (own_lt ha)
    replace hbb := own_below hbb hb (own_lt hbb)
    replace hcc := own_below hcc hb (own_lt hcc)
    replace hd := own_below hd hb (own_lt hd)
    replace hp := own_below hp hb (own_lt hp)
    replace hqq := own_below hqq hb (own_lt hqq)
    replace hbw : Below w.heap.size w w10 := hbw.trans (hb.mono (by omega))
    have z_w10 : w.heap.size ≤ w10.heap.size := hbw.size
    have y_w10 : w9.heap.size ≤ w10.heap.size := hb.size
    rw [decide_eq_true rfl]
    clear hb
    go_wp2_with fail
    refine (same_any Ac Ad cc cd (dropL xs s) (dropL xs s) w10 (Rd.of_own hcc) (Rd.of_own hd) ld).mono ?_
    rintro e w11 ⟨rfl, n11, hq⟩
    have hb := world_of ⟨_, hq⟩
    clear hq
    replace hl := hl.thru hb (by omega)
    replace ho := own_below ho hb (own_lt ho)
    replace ha := own_below ha hb (own_lt ha)
    replace hcc := own_below hcc hb (own_lt hcc)
    replace hd := own_below hd hb (own_lt hd)
    replace hp := own_below hp hb (own_lt hp)
    replace hqq := own_below hqq hb (own_lt hqq)
    replace hbw : Below w.heap.size w w11 := hbw.trans (hb.mono (by omega))
    have z_w11 : w.heap.size ≤ w11.heap.size := hbw.size
    have y_w11 : w10.heap.size ≤ w11.heap.size := hb.size
    rw [decide_eq_true rfl]
    clear hb
    go_wp2_with fail
    refine (same_any Ap Aq cp cq (sortL xs) (sortL xs) w11 (Rd.of_own hp) (Rd.of_own hqq) ls).mono ?_
    rintro e w12 ⟨rfl, n12, hq⟩
    have hb := world_of ⟨_, hq⟩
    clear hq
    replace hl := hl.thru hb (by omega)
    replace ho := own_below ho hb (own_lt ho)
    replace ha := own_below ha hb (own_lt ha)
    replace hcc := own_below hcc hb (own_lt hcc)
    replace hp := own_below hp hb (own_lt hp)
    replace hqq := own_below hqq hb (own_lt hqq)
    replace hbw : Below w.heap.size w w12 := hbw.trans (hb.mono (by omega))
    have z_w12 : w.heap.size ≤ w12.heap.size := hbw.size
    have y_w12 : w11.heap.size ≤ w12.heap.size := hb.size
    rw [decide_eq_true rfl]
    clear hb
    go_wp2_with fail
    refine (check_any Ao co xs w12 (Rd.of_own ho) hm).mono ?_
    rintro e w13 ⟨rfl, n13, hq⟩
    have hb := world_of ⟨_, hq⟩
    clear hq
    replace hl := hl.thru hb (by omega)
    replace ho := own_below ho hb (own_lt ho)
    replace ha := own_below ha hb (own_lt ha)
    replace hcc := own_below hcc hb (own_lt hcc)
    replace hp := own_below hp hb (own_lt hp)
    replace hbw : Below w.heap.size w w13 := hbw.trans (hb.mono (by omega))
    have z_w13 : w.heap.size ≤ w13.heap.size := hbw.size
    have y_w13 : w12.heap.size ≤ w13.heap.size := hb.size
    clear hb
    go_wp2_with fail
    refine (refcheck_any A c xs w13 hl (by omega) hz).mono ?_
    rintro e w14 ⟨rfl, n14, hq⟩
    have hb := world_of ⟨_, hq⟩
    clear hq
    replace hl := hl.thru hb (by omega)
    replace ho := own_below ho hb (own_lt ho)
    replace ha := own_below ha hb (own_lt ha)
    replace hcc := own_below hcc hb (own_lt hcc)
    replace hp := own_below hp hb (own_lt hp)
    replace hbw : Below w.heap.size w w14 := hbw.trans (hb.mono (by omega))
    have z_w14 : w.heap.size ≤ w14.heap.size := hbw.size
    have y_w14 : w13.heap.size ≤ w14.heap.size := hb.size
    clear hb
    go_wp2_with fail
    refine (spoil_any _ _ _ _ w14 ha lp).mono ?_
    rintro e w15 ⟨rfl, hg⟩
    replace ho := ho.kept hg (apart lt_ho ge_ha (by omega))
    replace hcc := hcc.kept hg (apart' lt_ha ge_hcc (by omega))
    replace hp := hp.kept hg (apart' lt_ha ge_hp (by omega))
    have hb : Below w.heap.size w14 w15 := (Below.refl _ _).grown hg (by omega) (fun k hk => by have := ge_ha k hk; omega)
    replace hl := hl.thru hb (by omega)
    replace hbw : Below w.heap.size w w15 := hbw.trans hb
    have z_w15 : w.heap.size ≤ w15.heap.size := hbw.size
    clear hb hg
    go_wp2_with fail
    refine (spoil_any _ _ _ _ w15 hcc ld).mono ?_
    rintro e w16 ⟨rfl, hg⟩
    replace ho := ho.kept hg (apart lt_ho ge_hcc (by omega))
    replace hp := hp.kept hg (apart' lt_hcc ge_hp (by omega))
    have hb : Below w.heap.size w15 w16 := (Below.refl _ _).grown hg (by omega) (fun k hk => by have := ge_hcc k hk; omega)
    replace hl := hl.thru hb (by omega)
    replace hbw : Below w.heap.size w w16 := hbw.trans hb
    have z_w16 : w.heap.size ≤ w16.heap.size := hbw.size
    clear hb hg
    go_wp2_with fail
    refine (spoil_any _ _ _ _ w16 hp ls).mono ?_
    rintro e w17 ⟨rfl, hg⟩
    replace ho := ho.kept hg (apart lt_ho ge_hp (by omega))
    have hb : Below w.heap.size w16 w17 := (Below.refl _ _).grown hg (by omega) (fun k hk => by have := ge_hp k hk; omega)
    replace hl := hl.thru hb (by omega)
    replace hbw : Below w.heap.size w w17 := hbw.trans hb
    have z_w17 : w.heap.size ≤ w17.heap.size := hbw.size
    clear hb hg
    go_wp2_with fail
    refine (same_any Ao A co c xs xs w17 (Rd.of_own ho) hl hm).mono ?_
    rintro e w18 ⟨rfl, n18, rfl⟩
    rw [decide_eq_true rfl]
    go_wp2
    go_ret
    exact ⟨rfl, hbw.drewN' _⟩
theorem own : ownKnob Try.prog.godebug = none := by kernel_rfl
theorem laidOut : laidOutB Try.prog = true := by kernel_rfl
set_option maxRecDepth 100000 in
theorem lifted (os : Os) (started : os.Started) (H : Type) (enc : TypeId × Value → H) :
    ReturnsInHanded {} Try.checked os 7 .any (Rows.orderDoesSpec.pre6 enc Try.prog Try.f7 Rows.orderDoesRow.domain false) (Rows.orderDoesSpec.post enc Try.prog Try.f7 false true false false) := by
  refine returnsInHanded_of_change_shaped (C := Try.checked) own started (by kernel_rfl) Try.func7
    (ChangeSpec.witness6 (enc := enc) (C := Try.checked) false ⟨#[], #[.slice none 0 0, .string ⟨#[]⟩], []⟩ 8 (by kernel_rfl) (by kernel_rfl) (by kernel_rfl) (by kernel_rfl)) ?_
  intro W base args ds gs before hval0 hW _ hsz0 hsh0 _
  have hsh : W.ShapedOpen Try.prog := hsh0
  have hsz : (DataW.weightsEach Try.prog (Try.f7.params.toList ++ Rows.orderDoesSpec.plain.varTypes Try.prog) (ds ++ gs)).all (· ≤ reachBytes) = true := hsz0
  clear hsz0 hsh0
  have hval : ∀ (j : Nat) t v, Try.f7.params[j]? = some t → args[j]? = some v → Value.okWide Try.prog W .any base t v := hval0
  have hW' := hW
  obtain ⟨p, q, hA0, hV, rfl, hfz, hnd⟩ := hW
  have hA : DataW.TrodAll enc Try.prog W 0 (fun _ => true) true Try.f7.params.toList args.toList ds p := hA0
  rw [Try.params7] at hA hval hsz
  have hlt0 : ∀ x ∈ p, x.block < W.heap.size := fun x hx => hW'.lt x (by simp [hx])
  obtain ⟨v0, vs0, d0, ds0, p0, q0, hargs, rfl, rfl, h0, r0⟩ := trodAll_cons hA
  obtain ⟨v1, vs1, d1, ds1, p1, q1, rfl, rfl, rfl, h1, r1⟩ := trodAll_cons r0
  obtain ⟨rfl, rfl, rfl⟩ := trodAll_nil r1
  obtain rfl : args = #[v0, v1] := by cases args; simp_all
  obtain ⟨rfl, rfl⟩ := trodVars_none hV
  obtain ⟨Al, cl, l, rfl, hl, ll, ml, zl, el⟩ := open_strs Try.underlying26 Try.underlying9 (by kernel_rfl) (hval 0 26 v0 rfl rfl) h0 (fun y hy => hlt0 y (by simp [hy]))
  have rl : l.length * 16 ≤ 140737488351232 := by
    rcases el with ⟨_, rfl⟩ | ⟨el, sp, rfl, hel⟩
    · simp
    · have := sized_slice hsz (j := 0) (t := 26) (e := 9) rfl rfl Try.underlying26
      rw [show Try.prog.bytesOf 9 = 16 by kernel_rfl] at this
      simp only [reachBytes] at this
      omega
  obtain ⟨s, rfl, rfl, rfl, ws⟩ := open_string Try.underlying9 (hval 1 9 v1 rfl rfl) h1
  have rs : s.size ≤ 140737488351232 := by
    have := sized_string hsz (j := 1) rfl rfl
    simpa [reachBytes] using this
  clear hA0 hval0
  refine (walk Al cl l s W hl ll (by unfold maxLen; omega) zl (by unfold maxLen; omega)).mono fun e W' ⟨he, hb⟩ => ⟨_, he, ?_⟩
  exact law_post laidOut (of_decide_eq_true (by kernel_rfl)) rfl rfl Try.underlying4 (fun ds hl => by
    match ds, hl with
    | [_, _], _ => rfl) hW' hb

theorem proved : Rows.OrderDoesSaid :=
  OpenClaim.holds_of_wide 7 Try.f7 rfl rfl rfl rfl rfl rfl rfl ⟨rfl, rfl, rfl, rfl, rfl⟩ rfl rfl rfl rfl rfl (by kernel_rfl) Try.func7 (by kernel_rfl)
    (of_decide_eq_true (by kernel_rfl)) (by unfold Func.isWrapper; first | (rw [if_pos (by decide +kernel)]; kernel_rfl) | (rw [if_neg (by decide +kernel)]; exact ⟨rfl, rfl⟩))
    (fun os started H enc _ => lifted os started H enc)
end Go.Proofs.Ytgicbpoicejmbaa.orderDoes

