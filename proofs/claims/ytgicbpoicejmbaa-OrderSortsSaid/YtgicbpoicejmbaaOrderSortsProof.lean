/- OrderSorts: for any list and string, sorted is what has been put one by one, has just the same strings, and a second time changes nothing: the call returns true, and what came in reads as before. Conditions: none. -/
import Derived.Test.YtgicbpoicejmbaaRows
import Derived.Test.YtgicbpoicejmbaaAlive
import Derived.Test.YtgicbpoicejmbaaSortWalk
import Derived.Test.YtgicbpoicejmbaaOpen
import Derived.WalkKit
import Derived.ProofKit
namespace Go.Proofs.Ytgicbpoicejmbaa.orderSorts
open Go.ChangeShapes Go.WideShapes Go.ChangeAt Go.RowKit
open Go.ChangeMaps (open_string shut_string)

def anyB (xs : List ByteArray) (s : ByteArray) : Bool := xs.any fun x => decide (x = s)
theorem anyB_snoc (xs : List ByteArray) (s : ByteArray) (k : Nat) (h : k < xs.length) : anyB (xs.take (k + 1)) s = (anyB (xs.take k) s || decide (xs[k] = s)) := by
  unfold anyB
  rw [List.take_succ_eq_append_getElem h, List.any_append, List.any_cons, List.any_nil, Bool.or_false]
theorem has_any (xs : List ByteArray) (s : ByteArray) : hasB (sortB xs) s = anyB xs s := by
  rw [Bool.eq_iff_iff, hasB_sort]
  unfold anyB
  simp
theorem sortL_small {xs : List ByteArray} (h : xs.length ≤ 4096) : sortL xs = sortB xs := by rw [sortL, if_pos h]
theorem sortC_small {xs : List ByteArray} (h : xs.length ≤ 4096) : sortC xs = 0 := by rw [sortC, if_pos h]
/-- a list in memory -/
def LstAt (w : World) (v : Value) (L : List ByteArray) : Prop := ∃ A c, v = .slice A L.length c ∧ Rd w w.heap.size A (sv L)
theorem LstAt.of_own {w : World} {base : Nat} {v : Value} {L : List ByteArray} (h : w.ownsRow base 9 1 v L.length (sv L)) : LstAt w v L := by
  obtain ⟨A, c, rfl, _, _⟩ := own_slice h
  exact ⟨A, c, rfl, Rd.of_own h⟩

set_option maxHeartbeats 8000000 in
set_option maxRecDepth 100000 in
theorem walk_good (A : Option Addr) (c : Nat) (xs : List ByteArray) (s : ByteArray) (w : World) (hx : Rd w w.heap.size A (sv xs)) (hn : xs.length ≤ 100) (hz : ∀ s ∈ xs, s.size ≤ maxLen) :
    Calls Try.prog 6 #[.slice A xs.length c, .string s] w fun e w' => e = .returned (.bool true) ∧ Below w.heap.size w w' := by
  have hm : xs.length ≤ maxLen := by unfold maxLen; omega
  have h4 : xs.length ≤ 4096 := by omega
  have hle := sortB_len xs
  have h4' : (sortB xs).length ≤ 4096 := by omega
  have h5' : (sortB xs).length ≤ maxLen := by unfold maxLen; omega
  have hok := okB_sort xs h4
  have hfix : sortB (sortB xs) = sortB xs := sortB_fix (sortB_pw xs)
  have hany := has_any xs s
  have HK := Lib.hid hok
  have HF := Lib.hid hfix
  have HA := Lib.hid hany
  clear hok hfix hany
  go_enter Try.func6, Try.ntmps6
  go_wp2_with fail
  refine (alive_any w).mono ?_
  rintro e w1 ⟨rfl, hb1⟩
  have hx1 := hx.below hb1 (Nat.le_refl _)
  have hs1 := hb1.size
  go_wp2_with fail
  refine (great_any A c xs w1 hx1 hm hz).mono ?_
  rintro e w2 ⟨b, rfl, rfl, hbb⟩
  clear hbb
  cases b
  · have hlen' : ¬ 100 < (xs.length : Int) := by omega
    go_wp2_with fail
    refine (sort_any A c xs w1 hx1 hs1 hm).mono ?_
    rintro e w2 ⟨v, rfl, hown, hb2⟩
    rw [sortC_small h4]
    rw [sortL_small h4] at hown
    have hb2' : Below w.heap.size w w2 := hb1.trans (hb2.mono hs1)
    have hx2 := hx.below hb2' (Nat.le_refl _)
    obtain ⟨A', c', rfl, ha2⟩ := LstAt.of_own hown
    have hx2' := hx2.mono hb2'.size
    clear hx1 hx hb2 hb1 hown hs1
    go_wp2
    go_loopw [8, 9, 10] (fun b hs i wr => ∃ k : Nat, k ≤ xs.length ∧ i = .int .i64 k ∧ hs = .bool (anyB (xs.take k) s) ∧ LstAt wr b (sortB (xs.take k)) ∧ Below w2.heap.size w2 wr) (fun _ _ i _ => xs.length - (intOf i).toNat)
    case atStart =>
      refine ⟨0, Nat.zero_le _, rfl, rfl, ⟨none, 0, by rw [List.take_zero, sortB_nil]; rfl, ?_⟩, Below.refl _ _⟩
      rw [List.take_zero, sortB_nil]
      exact .inl rfl
    case round =>
      obtain ⟨k, hk, rfl, rfl, ⟨Ab, cb, rfl, hLb⟩, hbr⟩ := hrel
      have hxr := hx2'.thru hbr (Nat.le_refl _)
      have har := ha2.thru hbr (Nat.le_refl _)
      by_cases hlt : k < xs.length
      · obtain ⟨b, off, rfl, _, hc⟩ := hxr.str hlt
        have hcell := hc k hlt
        clear hc hxr har
        have hlk : (sortB (xs.take k)).length ≤ 100 := Nat.le_trans (sortB_len _) (by simp; omega)
        have hput := putL_sort (xs.take k) xs[k] (by simp; omega)
        have hpc := put_any Ab cb (sortB (xs.take k)) xs[k] wr hLb (by unfold maxLen; omega)
        unfold PutPost at hpc
        rw [hput.1, hput.2, ← List.take_succ_eq_append_getElem hlt] at hpc
        have hsn := anyB_snoc xs s k hlt
        have HS := Lib.hid hsn
        clear hput hsn hLb hlk HK HF HA
        obtain ⟨q, hq⟩ : ∃ q, anyB (xs.take k) s = q := ⟨_, rfl⟩
        have hsn2 : anyB (xs.take (k + 1)) s = (q || decide (xs[k] = s)) := by rw [← hq]; exact HS.out
        have HN := Lib.hid hsn2
        clear HS hsn2
        rw [hq]
        clear hq
        go_wp2_with fail
        refine hpc.mono ?_
        rintro e w3 ⟨v, rfl, hown, hb3⟩
        have hb3' := hbr.trans (hb3.mono hbr.size)
        have hcell3 : w3.cell? ⟨b, off + k, none⟩ = some (.string xs[k]) := (hb3.cell (p := ⟨b, off + k, none⟩) (World.block_lt_of_cell? wr _ hcell)).trans hcell
        have hl3 := LstAt.of_own hown
        clear hpc hown hb3 hcell
        by_cases he : xs[k] = s
        · have he' : (xs[k].toList == s.toList) = true := by rw [ba_beq]; simpa using he
          have hd : (q || decide (xs[k] = s)) = true := by simp [he]
          rw [hd] at HN
          clear hd he
          cases q
          · go_wp2
            go_roundw
            case rel => exact ⟨k + 1, by omega, by go_num, by rw [HN.out], hl3, hb3'⟩
            case measure => simp [intOf]; omega
          · go_wp2
            go_roundw
            case rel => exact ⟨k + 1, by omega, by go_num, by rw [HN.out], hl3, hb3'⟩
            case measure => simp [intOf]; omega
        · have he' : (xs[k].toList == s.toList) = false := by rw [ba_beq]; simpa using he
          have hd : (q || decide (xs[k] = s)) = q := by simp [he]
          rw [hd] at HN
          clear hd he
          cases q
          · go_wp2
            go_roundw
            case rel => exact ⟨k + 1, by omega, by go_num, by rw [HN.out], hl3, hb3'⟩
            case measure => simp [intOf]; omega
          · go_wp2
            go_roundw
            case rel => exact ⟨k + 1, by omega, by go_num, by rw [HN.out], hl3, hb3'⟩
            case measure => simp [intOf]; omega
      · obtain rfl : k = xs.length := by omega
        rw [List.take_length] at hLb ⊢
        obtain ⟨q, hq⟩ : ∃ q, anyB xs s = q := ⟨_, rfl⟩
        rw [hq]
        have hany : hasB (sortB xs) s = q := by rw [HA.out, hq]
        have HA := Lib.hid hany
        clear hq hany hxr
        have hbw : Below w.heap.size w wr := hb2'.trans (hbr.mono hb2'.size)
        have har' : Rd wr wr.heap.size A' (sv (sortB xs)) := har.mono hbr.size
        have hsz := hbw.size
        clear har hbr ha2 hx2 hx2' hb2'
        generalize hL : sortB xs = L at *
        have HLL := Lib.hid hL
        clear hL
        go_wp2_with fail
        refine (sort_any A' c' L wr har' (Nat.le_refl _) h5').mono ?_
        rintro e w4 ⟨v4, rfl, hown4, hb4⟩
        rw [sortC_small h4']
        rw [sortL_small h4', HF.out] at hown4
        obtain ⟨A4, c4, rfl, hl4⟩ := LstAt.of_own hown4
        have hL4 := har'.thru hb4 (Nat.le_refl _)
        have hB4 := hLb.thru hb4 (Nat.le_refl _)
        have hbw4 := hbw.trans (hb4.mono hsz)
        have hz4 := hb4.size
        clear hown4 hb4 har' hLb hbw hsz
        go_wp2_with fail
        refine (find_yes A' c' L s w4 hL4 HK.out).mono ?_
        rintro e w5 ⟨rfl, n5, hd5⟩
        have hbx := world_of ⟨n5, hd5⟩
        have hL5 := hL4.thru hbx hz4
        have hB5 := hB4.thru hbx hz4
        have hl5 := hl4.thru hbx (Nat.le_refl _)
        have hbw5 := hbw4.trans (hbx.mono hbw4.size)
        clear hd5 hbx hL4 hB4 hl4 hbw4
        rw [HA.out]
        go_wp2_with fail
        refine (same_any A' Ab c' cb L L w5 hL5 hB5 h5').mono ?_
        rintro e w6 ⟨rfl, n6, rfl⟩
        rw [decide_eq_true rfl]
        go_wp2_with fail
        refine (same_any A' A4 c' c4 L L _ (hL5.drewN _) (hl5.drewN _) h5').mono ?_
        rintro e w7 ⟨rfl, n7, rfl⟩
        rw [decide_eq_true rfl]
        cases q
        · go_wp2
          go_ret
          exact ⟨rfl, hbw5.drewN' _⟩
        · go_wp2
          go_ret
          exact ⟨rfl, hbw5.drewN' _⟩
  · go_wp2
    go_ret
    exact ⟨rfl, hb1⟩

set_option maxHeartbeats 2000000 in
set_option maxRecDepth 100000 in
theorem walk_long (A : Option Addr) (c : Nat) (xs : List ByteArray) (s : ByteArray) (w : World) (hx : Rd w w.heap.size A (sv xs)) (hn : xs.length ≤ maxLen) (hz : ∀ s ∈ xs, s.size ≤ maxLen) (hl : 100 < xs.length) :
    Calls Try.prog 6 #[.slice A xs.length c, .string s] w fun e w' => e = .returned (.bool true) ∧ Below w.heap.size w w' := by
  have hl' : (100 : Int) < xs.length := by omega
  go_enter Try.func6, Try.ntmps6
  go_wp2_with fail
  refine (alive_any w).mono ?_
  rintro e w1 ⟨rfl, hb1⟩
  have hx1 := hx.below hb1 (Nat.le_refl _)
  go_wp2_with fail
  refine (great_any A c xs w1 hx1 hn hz).mono ?_
  rintro e w2 ⟨b, rfl, rfl, hbb⟩
  clear hbb
  cases b
  · go_wp2
    go_ret
    exact ⟨rfl, hb1⟩
  · go_wp2
    go_ret
    exact ⟨rfl, hb1⟩
theorem walk (A : Option Addr) (c : Nat) (xs : List ByteArray) (s : ByteArray) (w : World) (hx : Rd w w.heap.size A (sv xs)) (hn : xs.length ≤ maxLen) (hz : ∀ s ∈ xs, s.size ≤ maxLen) :
    Calls Try.prog 6 #[.slice A xs.length c, .string s] w fun e w' => e = .returned (.bool true) ∧ Below w.heap.size w w' := by
  by_cases h : xs.length ≤ 100
  · exact walk_good A c xs s w hx h hz
  · exact walk_long A c xs s w hx hn hz (by omega)
theorem own : ownKnob Try.prog.godebug = none := by kernel_rfl
theorem laidOut : laidOutB Try.prog = true := by kernel_rfl
set_option maxRecDepth 100000 in
theorem lifted (os : Os) (started : os.Started) (H : Type) (enc : TypeId × Value → H) :
    ReturnsInHanded {} Try.checked os 6 .any (Rows.orderSortsSpec.pre6 enc Try.prog Try.f6 Rows.orderSortsRow.domain false) (Rows.orderSortsSpec.post enc Try.prog Try.f6 false true false false) := by
  refine returnsInHanded_of_change_shaped (C := Try.checked) own started (by kernel_rfl) Try.func6
    (ChangeSpec.witness6 (enc := enc) (C := Try.checked) false ⟨#[], #[.slice none 0 0, .string ⟨#[]⟩], []⟩ 8 (by kernel_rfl) (by kernel_rfl) (by kernel_rfl) (by kernel_rfl)) ?_
  intro W base args ds gs before hval0 hW _ hsz0 hsh0 _
  have hsh : W.ShapedOpen Try.prog := hsh0
  have hsz : (DataW.weightsEach Try.prog (Try.f6.params.toList ++ Rows.orderSortsSpec.plain.varTypes Try.prog) (ds ++ gs)).all (· ≤ reachBytes) = true := hsz0
  clear hsz0 hsh0
  have hval : ∀ (j : Nat) t v, Try.f6.params[j]? = some t → args[j]? = some v → Value.okWide Try.prog W .any base t v := hval0
  have hW' := hW
  obtain ⟨p, q, hA0, hV, rfl, hfz, hnd⟩ := hW
  have hA : DataW.TrodAll enc Try.prog W 0 (fun _ => true) true Try.f6.params.toList args.toList ds p := hA0
  rw [Try.params6] at hA hval hsz
  have hlt0 : ∀ x ∈ p, x.block < W.heap.size := fun x hx => hW'.lt x (by simp [hx])
  obtain ⟨v0, vs0, d0, ds0, p0, q0, hargs, rfl, rfl, h0, r0⟩ := trodAll_cons hA
  obtain ⟨v1, vs1, d1, ds1, p1, q1, rfl, rfl, rfl, h1, r1⟩ := trodAll_cons r0
  obtain ⟨rfl, rfl, rfl⟩ := trodAll_nil r1
  obtain rfl : args = #[v0, v1] := by cases args; simp_all
  obtain ⟨rfl, rfl⟩ := trodVars_none hV
  obtain ⟨Al, cl, l, rfl, hl, ll, ml, zl, el⟩ := open_strs Try.underlying26 Try.underlying9 (by kernel_rfl) (hval 0 26 v0 rfl rfl) h0 (fun y hy => hlt0 y (by simp [hy]))
  have rl : l.length * 16 ≤ 140737488351232 := by
    rcases el with ⟨_, rfl⟩ | ⟨el, sp, rfl, hel⟩
    · simp
    · have := sized_slice hsz (j := 0) (t := 26) (e := 9) rfl rfl Try.underlying26
      rw [show Try.prog.bytesOf 9 = 16 by kernel_rfl] at this
      simp only [reachBytes] at this
      omega
  obtain ⟨s, rfl, rfl, rfl, ws⟩ := open_string Try.underlying9 (hval 1 9 v1 rfl rfl) h1
  have rs : s.size ≤ 140737488351232 := by
    have := sized_string hsz (j := 1) rfl rfl
    simpa [reachBytes] using this
  clear hA0 hval0
  refine (walk Al cl l s W hl (by unfold maxLen; omega) zl).mono fun e W' ⟨he, hb⟩ => ⟨_, he, ?_⟩
  exact law_post laidOut (of_decide_eq_true (by kernel_rfl)) rfl rfl Try.underlying4 (fun ds hl => by
    match ds, hl with
    | [_, _], _ => rfl) hW' hb

theorem proved : Rows.OrderSortsSaid :=
  OpenClaim.holds_of_wide 6 Try.f6 rfl rfl rfl rfl rfl rfl rfl ⟨rfl, rfl, rfl, rfl, rfl⟩ rfl rfl rfl rfl rfl (by kernel_rfl) Try.func6 (by kernel_rfl)
    (of_decide_eq_true (by kernel_rfl)) (by unfold Func.isWrapper; first | (rw [if_pos (by decide +kernel)]; kernel_rfl) | (rw [if_neg (by decide +kernel)]; exact ⟨rfl, rfl⟩))
    (fun os started H enc _ => lifted os started H enc)
end Go.Proofs.Ytgicbpoicejmbaa.orderSorts
