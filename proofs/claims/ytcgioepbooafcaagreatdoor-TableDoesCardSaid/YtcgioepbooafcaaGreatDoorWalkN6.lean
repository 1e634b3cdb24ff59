/- cell.behind's closure at a list, by what it answers one level deeper. Conditions: lengths within the model's; Go's two tables of utf8. -/
import Derived.Test.YtcgioepbooafcaaGreatDoorMNames
namespace Go.Proofs.YtcgioepbooafcaaGreatDoor
open Go.RowKit
variable {w0 w w' : World} {A : Option Addr} {cap : Nat} {xs : List Cel} {bv ba bw be bE : Nat} {E : List Int}
set_option maxRecDepth 100000 in
set_option maxHeartbeats 2000000 in
theorem walk6_empty {nm tx : ByteArray} {num : Int} {a d : Nat}
    {B : Nat} (hS : St w0 w A cap xs bv ba bw be bE E) (hx : Rd w0 B A (cv xs)) (hB : B ≤ w0.heap.size) (hn : xs.length ≤ 1000000) (_hT : Tabs w0) (hd : d + 1 ≤ 16) (h : xs[a]? = some ⟨6, nm, tx, num, 0⟩) (_hs : tx.size ≤ maxLen) (ho : oneC ⟨6, nm, tx, num, 0⟩ = true) :
    Calls Tryz.prog 82 #[.int .i64 a, .int .i64 ((d + 1 : Nat) : Int), .pointer (some ⟨bv, 0, none⟩), .pointer (some ⟨ba, 0, none⟩), .pointer (some ⟨bw, 0, none⟩), .pointer (some ⟨be, 0, none⟩)] w fun e w' => WalkPost w0 w A cap xs bv ba bw be bE E (d + 1) a e w' := by
  have hb0 : bh xs (d + 1) a = some (a + 1) := by rw [bh_nest h ho (.inl rfl)]; rfl
  unfold WalkPost
  rw [hb0]
  have hF : decide (tx = e0) = true := by
    simp only [oneC, (by decide : ¬ (6 : Nat) = 0), (by decide : ¬ (6 : Nat) = 1), (by decide : ¬ (6 : Nat) = 2), (by decide : ¬ (6 : Nat) = 3), if_false] at ho
    simp at ho
    simp [ho]
  have hG : decide (num = 0) = true := by
    simp only [oneC, (by decide : ¬ (6 : Nat) = 0), (by decide : ¬ (6 : Nat) = 1), (by decide : ¬ (6 : Nat) = 2), (by decide : ¬ (6 : Nat) = 3), if_false] at ho
    simp at ho
    simp [ho]
  have hdI : ((d + 1 : Nat) : Int) = (d : Int) + 1 := by omega
  have hd0 : (((d : Int) + 1) == 0) = false := beq_eq_false_iff_ne.2 (by omega)
  rw [hdI]
  clear ho
  have HB := Lib.hid hb0
  clear hb0
  obtain ⟨b, off, rfl, hb, c0, c1, c2, c3, c4⟩ := hx.cel1 h
  have hl := (List.getElem?_eq_some_iff.1 h).1
  have hlI : (a : Int) < xs.length := by omega
  have ha0 : decide ((a : Int) < 0) = false := by simp
  have hbw : b < w0.heap.size := by omega
  have d0 := (hS.below.cell (p := ⟨b, off + a * 5, none⟩) hbw).trans c0
  have d1 := (hS.below.cell (p := ⟨b, off + a * 5 + 1, none⟩) hbw).trans c1
  have d2 := (hS.below.cell (p := ⟨b, off + a * 5 + 2, none⟩) hbw).trans c2
  have d3 := (hS.below.cell (p := ⟨b, off + a * 5 + 3, none⟩) hbw).trans c3
  have d4 := (hS.below.cell (p := ⟨b, off + a * 5 + 4, none⟩) hbw).trans c4
  clear c0 c1 c2 c3 c4
  obtain ⟨l1, l2, l3, l4, l5⟩ := hS.lt
  have hvc := hS.hv
  have k0 := hS.kind 18
  have k1 := hS.kind 19
  have k2 := hS.kind 20
  rw [show kindsA[18]? = some (.func (.func 90) #[] #[]) from rfl] at k0
  rw [show kindsA[19]? = some (.func (.func 91) #[] #[]) from rfl] at k1
  rw [show kindsA[20]? = some (.bool true) from rfl] at k2
  have hT2 := Two.new w 6 nm tx num 0 (.func (.func 90) #[] #[]) (.func (.func 91) #[] #[]) (.bool true)
  unfold two at hT2
  go_enter Tryz.func82, Tryz.ntmps82
  go_upto_region 7 with fail
  obtain ⟨W0, hW0⟩ : ∃ W0, ((w.alloc (.cells #[.int .u8 6, .string nm, .string tx, .int .i64 num, .int .i64 0] 47)).alloc (.cells #[.func (.func 90) #[] #[], .func (.func 91) #[] #[], .bool true] 107)) = W0 := ⟨_, rfl⟩
  rw [hW0] at hT2 ⊢
  clear hW0 k0 k1 k2 d0 d1 d2 d3 d4 hvc
  have HT := Lib.hid hT2
  obtain ⟨x0, xs0, z0, z1, z2, z3, z4, y0, y1, y2⟩ := hT2
  have cF := fun W => none_any tx W
  rw [hF] at cF
  have cG := fun W => zero_any num W
  rw [hG] at cG
  go_wp2_with (first | (go_at_call 90; refine (cF _).mono ?_; rintro e w2 ⟨rfl, rfl⟩) | (go_at_call 91; refine (cG _).mono ?_; rintro e w3 ⟨rfl, rfl⟩))
  go_loopw [12, 79] (fun n i wr => n = .int .i64 ((a : Int) + 1) ∧ i = .int .i64 0 ∧ wr = w3) (fun _ _ _ => 0)
  case atStart => exact ⟨rfl, rfl, rfl⟩
  case round =>
    obtain ⟨rfl, rfl, rfl⟩ := hrel
    have hSX := hS.grow x0
    have e0 := hSX.he
    have e1 := hSX.ends a hl
    have e2 := hSX.frozen a
    go_wp2
    go_ret
    exact ⟨ret_int (by simp [ans]), grown_trans (of_below x0) (grown_set _ _ _ _), _, hSX.set a _ hl, ends_leaf hd (by rw [hS.len]; exact hl) HB.out⟩
set_option maxRecDepth 100000 in
set_option maxHeartbeats 8000000 in
theorem walk6_full {nm tx : ByteArray} {num : Int} {mm : Nat} {a d : Nat}
    {B : Nat} (hS : St w0 w A cap xs bv ba bw be bE E) (hx : Rd w0 B A (cv xs)) (hB : B ≤ w0.heap.size) (hn : xs.length ≤ 1000000) (_hT : Tabs w0) (hd : d + 1 ≤ 16) (h : xs[a]? = some ⟨6, nm, tx, num, (mm : Int)⟩) (_hs : tx.size ≤ maxLen) (ho : oneC ⟨6, nm, tx, num, (mm : Int)⟩ = true) (hpos : 0 < mm) (hW : ∀ c ∈ xs, c.name.size ≤ maxLen)
    (ih : ∀ (q : Nat) (w : World) (E : List Int), St w0 w A cap xs bv ba bw be bE E → q ≤ xs.length → Calls Tryz.prog 82 #[.int .i64 q, .int .i64 d, .pointer (some ⟨bv, 0, none⟩), .pointer (some ⟨ba, 0, none⟩), .pointer (some ⟨bw, 0, none⟩), .pointer (some ⟨be, 0, none⟩)] w fun e w' => WalkPost w0 w A cap xs bv ba bw be bE E d q e w') :
    Calls Tryz.prog 82 #[.int .i64 a, .int .i64 ((d + 1 : Nat) : Int), .pointer (some ⟨bv, 0, none⟩), .pointer (some ⟨ba, 0, none⟩), .pointer (some ⟨bw, 0, none⟩), .pointer (some ⟨be, 0, none⟩)] w fun e w' => WalkPost w0 w A cap xs bv ba bw be bE E (d + 1) a e w' := by
  obtain ⟨L, hL⟩ : ∃ L, bh xs (d + 1) a = L := ⟨_, rfl⟩
  have hL2 := hL
  rw [bh_nest h ho (.inl rfl)] at hL2
  simp only [Int.toNat_natCast] at hL2
  unfold WalkPost
  rw [hL]
  have HLB := Lib.hid hL
  have HL := Lib.hid hL2
  clear hL hL2
  have hF : decide (tx = e0) = true := by
    simp only [oneC, (by decide : ¬ (6 : Nat) = 0), (by decide : ¬ (6 : Nat) = 1), (by decide : ¬ (6 : Nat) = 2), (by decide : ¬ (6 : Nat) = 3), if_false] at ho
    simp at ho
    simp [ho]
  have hG : decide (num = 0) = true := by
    simp only [oneC, (by decide : ¬ (6 : Nat) = 0), (by decide : ¬ (6 : Nat) = 1), (by decide : ¬ (6 : Nat) = 2), (by decide : ¬ (6 : Nat) = 3), if_false] at ho
    simp at ho
    simp [ho]
  have hdI : ((d + 1 : Nat) : Int) = (d : Int) + 1 := by omega
  have hd0 : (((d : Int) + 1) == 0) = false := beq_eq_false_iff_ne.2 (by omega)
  rw [hdI]
  clear ho
  have hpI : (0 : Int) < mm := by omega
  have IH := Lib.hid ih
  clear ih
  obtain ⟨b, off, rfl, hb, c0, c1, c2, c3, c4⟩ := hx.cel1 h
  have hl := (List.getElem?_eq_some_iff.1 h).1
  have hlI : (a : Int) < xs.length := by omega
  have ha0 : decide ((a : Int) < 0) = false := by simp
  have hbw : b < w0.heap.size := by omega
  have d0 := (hS.below.cell (p := ⟨b, off + a * 5, none⟩) hbw).trans c0
  have d1 := (hS.below.cell (p := ⟨b, off + a * 5 + 1, none⟩) hbw).trans c1
  have d2 := (hS.below.cell (p := ⟨b, off + a * 5 + 2, none⟩) hbw).trans c2
  have d3 := (hS.below.cell (p := ⟨b, off + a * 5 + 3, none⟩) hbw).trans c3
  have d4 := (hS.below.cell (p := ⟨b, off + a * 5 + 4, none⟩) hbw).trans c4
  clear c0 c1 c2 c3 c4
  obtain ⟨l1, l2, l3, l4, l5⟩ := hS.lt
  have hvc := hS.hv
  have k0 := hS.kind 18
  have k1 := hS.kind 19
  have k2 := hS.kind 20
  rw [show kindsA[18]? = some (.func (.func 90) #[] #[]) from rfl] at k0
  rw [show kindsA[19]? = some (.func (.func 91) #[] #[]) from rfl] at k1
  rw [show kindsA[20]? = some (.bool true) from rfl] at k2
  have hT2 := Two.new w 6 nm tx num (mm : Int) (.func (.func 90) #[] #[]) (.func (.func 91) #[] #[]) (.bool true)
  unfold two at hT2
  go_enter Tryz.func82, Tryz.ntmps82
  go_upto_region 7 with fail
  obtain ⟨W0, hW0⟩ : ∃ W0, ((w.alloc (.cells #[.int .u8 6, .string nm, .string tx, .int .i64 num, .int .i64 (mm : Int)] 47)).alloc (.cells #[.func (.func 90) #[] #[], .func (.func 91) #[] #[], .bool true] 107)) = W0 := ⟨_, rfl⟩
  rw [hW0] at hT2 ⊢
  clear hW0 k0 k1 k2 d0 d1 d2 d3 d4 hvc
  have HT := Lib.hid hT2
  obtain ⟨x0, xs0, z0, z1, z2, z3, z4, y0, y1, y2⟩ := hT2
  have cF := fun W => none_any tx W
  rw [hF] at cF
  have cG := fun W => zero_any num W
  rw [hG] at cG
  have hmm := @run_makeMap Tryz.prog
  go_upto_region 11 with (first | (go_at_call 90; refine (cF _).mono ?_; rintro e w2 ⟨rfl, rfl⟩) | (go_at_call 91; refine (cG _).mono ?_; rintro e w3 ⟨rfl, rfl⟩))
  have hSX := hS.grow x0
  obtain ⟨w4, hput, hnm4, hg4⟩ := (Names.made w3).put ⟨#[]⟩ (Nat.zero_le _) (by unfold maxLen; omega)
  have hbm : (w3.alloc (.map #[] 0)).heap.size = w3.heap.size + 1 := by simp
  have hg34 : w3.grownBy w4 (some w3.heap.size) := grown_trans (World.grownBy_alloc _ _ _) hg4
  have hb34 : Below w3.heap.size w3 w4 := Below.grown ((Below.refl _ _).alloc (Nat.le_refl _) _) hg4 (by simp) (fun k hk => by cases hk; exact Nat.le_refl _)
  have hS4 := hSX.grow hb34
  have z0x := (hb34.cell (p := ⟨w.heap.size, 0, none⟩) (by show w.heap.size < _; omega)).trans z0
  have z4x := (hb34.cell (p := ⟨w.heap.size, 4, none⟩) (by show w.heap.size < _; omega)).trans z4
  have hwg : w.grownBy w4 (some bE) := of_below (x0.trans (hb34.mono x0.size))
  have hbmE : ¬ w3.heap.size = bE := by have := x0.size; omega
  have hw4 : w3.heap.size < w4.heap.size := hnm4.lt
  have hbk : w3.heap.size ≠ bv ∧ w3.heap.size ≠ ba ∧ w3.heap.size ≠ bw ∧ w3.heap.size ≠ be ∧ w3.heap.size ≠ bE := by have := x0.size; refine ⟨?_, ?_, ?_, ?_, ?_⟩ <;> omega
  have hw0 : w.heap.size < w3.heap.size := by omega
  have HS := Lib.hid hS
  have HG := Lib.hid hwg
  clear hSX hg34 hg4 hS hwg
  go_wp2
  clear z0 z1 z2 z3 z4 y0 y1 y2 hput hmm cF cG
  have HS4 := Lib.hid hS4
  clear hS4
  go_loopw [12, 79] (fun vn vi wr => ∃ (k : Nat) (o : Option Nat) (ns : List ByteArray) (E' : List Int), vi = .int .i64 k ∧ k ≤ mm ∧ vn = .int .i64 (ans o) ∧ (o = none → L = none) ∧
      (∀ q, o = some q → q ≤ xs.length ∧ a + 1 + k ≤ q ∧ loop (bh xs d) xs 6 (mm - k) q ns = L ∧ ∀ i, a < i → i < q → ∃ n : Nat, bh xs 16 i = some n ∧ E'.getD i 0 = (n : Int)) ∧
      Names wr w3.heap.size (k + 1) (ns ++ [⟨#[]⟩]) ∧ w.grownBy wr (some bE) ∧ St w0 wr (some ⟨b, off, none⟩) cap xs bv ba bw be bE E' ∧ (∀ i, i ≤ a → E'.getD i 0 = E.getD i 0) ∧ wr.cell? ⟨w.heap.size, 0, none⟩ = some (.int .u8 6)) (fun _ vi _ => mm - (intOf vi).toNat)
  case atStart =>
    refine ⟨0, some (a + 1), [], E, rfl, Nat.zero_le _, rfl, (fun g => by cases g), (fun q hq => ?_), hnm4, HG.out, HS4.out, fun _ _ => rfl, z0x⟩
    cases hq
    exact ⟨by omega, Nat.le_refl _, HL.out, fun i h1 h2 => by omega⟩
  case round =>
    obtain ⟨k, o, ns, E', rfl, hkm, rfl, hon, hos, hnam, hgr, hSr, hlow, z0r⟩ := hrel
    have HLO := Lib.hid hlow
    have HSr := Lib.hid hSr
    have HGR := Lib.hid hgr
    have hvr := hSr.hv
    obtain ⟨m1, m2, m3, m4, m5⟩ := hSr.lt
    clear hlow z0x hnm4
    have bad : ∀ (W : World), L = none → Below wr.heap.size wr W → w.grownBy W (some bE) ∧ ∃ E', St w0 W (some ⟨b, off, none⟩) cap xs bv ba bw be bE E' ∧ Ends xs (d + 1) a E E' := fun W hL hb =>
      ⟨grown_trans HGR.out (of_below hb), E', HSr.out.grow hb, fun i hi => HLO.out i (by omega), fun e he => by rw [HLB.out, hL] at he; cases he⟩
    have BAD := Lib.hid bad
    clear bad hSr hgr
    by_cases hlt : k < mm
    · cases o with
      | none =>
        have hLn := hon rfl
        subst hLn
        clear hos hon hnam hkm
        rw [show ans none = (-1 : Int) from rfl]
        go_wp2
        go_ret
        exact ⟨rfl, BAD.out _ (by simp) (Below.refl _ _)⟩
      | some q =>
        obtain ⟨hq, hkq, hlp, hgood⟩ := hos q rfl
        have HGOOD := Lib.hid hgood
        clear hos hon hgood
        obtain ⟨m, hm⟩ : ∃ m, mm - k = m + 1 := ⟨mm - k - 1, by omega⟩
        rw [hm] at hlp
        have HM := Lib.hid hm
        have hkI : (k : Int) ≤ 1000000 := by omega
        have hnnI : ¬ (q : Int) < 0 := by omega
        have hqd : decide ((q : Int) < 0) = false := by simp
        clear hm
        by_cases hql : q < xs.length
        · obtain ⟨e, he⟩ : ∃ e, xs[q]? = some e := ⟨xs[q], List.getElem?_eq_getElem hql⟩
          rw [loop_some he] at hlp
          have hqI : (q : Int) < xs.length := by omega
          have hqg : decide ((xs.length : Int) ≤ q) = false := by simp; omega
          have n1 : wr.cell? ⟨b, off + q * 5 + 1, none⟩ = some (.string e.name) := by
            obtain ⟨b', off', hbo, _, _, n1, _⟩ := hx.cel1 he
            simp only [Option.some.injEq, Addr.mk.injEq, and_true] at hbo
            obtain ⟨rfl, rfl⟩ := hbo
            exact (HSr.out.below.cell (p := ⟨b, off + q * 5 + 1, none⟩) hbw).trans n1
          have hnmz := hW e (List.mem_of_getElem? he)
          have HX := Lib.hid hx
          clear hx he
          obtain ⟨nk, hnk⟩ : ∃ nk, e.name = nk := ⟨_, rfl⟩
          rw [hnk] at hlp n1 hnmz
          clear hnk
          have hlook := hnam.look nk hnmz
          obtain ⟨c1, hc1⟩ : ∃ c, one (ns ++ [⟨#[]⟩]) nk = c := ⟨_, rfl⟩
          rw [hc1] at hlook
          have HN := Lib.hid hnam
          clear hnam
          rw [show ans (some q) = (q : Int) from rfl]
          by_cases hem : nk = e0
          · have hkid : kidOk 6 ns nk = true := by simp [kidOk, hem]
            rw [if_pos hkid] at hlp
            clear hkid
            have hE : nk.toList = [] := (e0_nil nk).1 hem
            clear hem hlook
            have hb5 : Below wr.heap.size wr wr := Below.refl _ _
            have hnam5 := HN.out.kept (of_below (bE := none) hb5) (by simp)
            obtain ⟨w6, hput6, hnm6, hg6⟩ := hnam5.put nk hnmz (by unfold maxLen; omega)
            have hS5 := HSr.out.grow hb5
            have hr6 : w.heap.size < wr.heap.size := by have := HGR.out.size; have := HN.out.lt; omega
            have hS6 := St.map hS5 hg6 (by have := HS.out.below.size; have := x0.size; omega) hbk
            have z06 : w6.cell? ⟨w.heap.size, 0, none⟩ = some (.int .u8 6) := hg6.cell ((hb5.cell (p := ⟨w.heap.size, 0, none⟩) hr6).trans z0r) (by simp; omega)
            have hwalk := hS6.hw
            have hgw6 : w.grownBy w6 (some bE) := ⟨hg6.os.trans (hb5.os.trans HGR.out.os), hg6.tape.trans (hb5.tape.trans HGR.out.tape), hg6.output.trans (hb5.output.trans HGR.out.output), Nat.le_trans HGR.out.size (Nat.le_trans hb5.size hg6.size), fun i hi hne => (hg6.block i (by have := hb5.size; omega) (by simp; omega)).trans ((hb5.block i (by omega)).trans (HGR.out.block i hi hne))⟩
            have HNM6 := Lib.hid hnm6
            have HG6 := Lib.hid hgw6
            clear hnam5 hS5 hg6 hnm6 hgw6
            go_wp2_with fail
            refine (IH.out q w6 E' hS6 hq).mono ?_
            obtain ⟨v, hv⟩ : ∃ v : Int, ans (bh xs d q) = v := ⟨_, rfl⟩
            unfold WalkPost
            rw [hv]
            rintro e2 w7 ⟨rfl, hg7, E7, hS7, hE7⟩
            have hnm7 := HNM6.out.kept hg7 (by simp; omega)
            have z07 := hg7.cell z06 (by simp; have := HS.out.b0; have := HS.out.below.size; omega)
            have hgw7 := grown_trans HG6.out hg7
            have hrel7 : (bh xs d q = none → L = none) ∧ (∀ q', bh xs d q = some q' → q' ≤ xs.length ∧ a + 1 + (k + 1) ≤ q' ∧ loop (bh xs d) xs 6 (mm - (k + 1)) q' (nk :: ns) = L ∧ ∀ i, a < i → i < q' → ∃ n : Nat, bh xs 16 i = some n ∧ E7.getD i 0 = (n : Int)) := by
              refine ⟨fun g => by rw [← hlp, g], fun q' g => ?_⟩
              have hgt := bh_gt xs d q q' g
              refine ⟨hgt.2, by omega, ?_, fun i h1 h2 => ?_⟩
              · rw [g] at hlp
                rw [show mm - (k + 1) = m by have := HM.out; omega]
                exact hlp
              · by_cases hiq : i < q
                · rw [hE7.1 i hiq]
                  exact HGOOD.out i h1 hiq
                · exact hE7.2 q' g i (by omega) h2
            have hlow7 : ∀ i, i ≤ a → E7.getD i 0 = E.getD i 0 := fun i hi => (hE7.1 i (by omega)).trans (HLO.out i hi)
            have HR7 := Lib.hid hrel7
            have HL7 := Lib.hid hlow7
            have HS7 := Lib.hid hS7
            clear hrel7 hlow7 hlp hE7 hS6 hwalk z06 hS7
            go_wp2
            go_roundw
            case rel => exact ⟨k + 1, bh xs d q, nk :: ns, E7, by go_num, by omega, by rw [hv], HR7.out.1, HR7.out.2, hnm7, hgw7, HS7.out, HL7.out, z07⟩
            case measure => simp [intOf]; omega
          · have hE : ¬ nk.toList = [] := fun g => hem ((e0_nil nk).2 g)
            have hLn : L = none := by rw [← hlp, if_neg (by simp [kidOk, hem])]
            subst hLn
            clear hlp
            go_wp2
            go_ret
            exact ⟨rfl, BAD.out _ (by simp) (Below.refl _ _)⟩
        · have hLn : L = none := by rw [← hlp, loop_none (by omega)]
          subst hLn
          have hqg : decide ((xs.length : Int) ≤ q) = true := by simp; omega
          clear hlp
          rw [show ans (some q) = (q : Int) from rfl]
          go_wp2
          go_ret
          exact ⟨rfl, BAD.out _ (by simp) (Below.refl _ _)⟩
    · obtain rfl : k = mm := by omega
      cases o with
      | none =>
        have hLn := hon rfl
        subst hLn
        clear hos hon hnam hkm
        rw [show ans none = (-1 : Int) from rfl]
        go_wp2
        go_ret
        exact ⟨rfl, BAD.out _ (by simp) (Below.refl _ _)⟩
      | some q =>
        obtain ⟨hq, hkq, hlp, hgood⟩ := hos q rfl
        rw [Nat.sub_self] at hlp
        obtain rfl : L = some q := by rw [← hlp]; rfl
        have e0 := HSr.out.he
        have e1 := HSr.out.ends a hl
        have e2 := HSr.out.frozen a
        have HGOOD := Lib.hid hgood
        clear hos hon hlp hnam hgood
        rw [show ans (some q) = (q : Int) from rfl]
        go_wp2
        go_ret
        refine ⟨rfl, grown_trans HGR.out (grown_set _ _ _ _), _, HSr.out.set a _ hl, ?_, ?_⟩
        · intro i hi
          simp only [List.getD_eq_getElem?_getD] at *
          rw [List.getElem?_set_ne (by omega)]
          have := HLO.out i (by omega)
          simpa only [List.getD_eq_getElem?_getD] using this
        · intro e he i h1 h2
          rw [HLB.out] at he
          cases he
          by_cases hia : i = a
          · subst hia
            refine ⟨q, bh_mono xs hd HLB.out, ?_⟩
            simp only [List.getD_eq_getElem?_getD]
            rw [List.getElem?_set_self (by rw [HSr.out.len]; exact hl)]
            rfl
          · obtain ⟨n, g1, g2⟩ := HGOOD.out i (by omega) h2
            refine ⟨n, g1, ?_⟩
            simp only [List.getD_eq_getElem?_getD] at g2 ⊢
            rw [List.getElem?_set_ne (by omega)]
            exact g2
end Go.Proofs.YtcgioepbooafcaaGreatDoor
