/- The walk of RangesCut: twins of the sets, the program's cuts and the reference's, and that all are the same. Conditions: none. -/
import Derived.Test.YtlndfkanbibhhaaRngCutP
namespace Go.Proofs.Ytlndfkanbibhhaa
open Go.RowKit
theorem info_set : (Try.prog.info? 23).map (fun i => (i.zero, i.size, i.bytes)) = some (some (.slice none 0 0), 1, 24) := by kernel_rfl
/-- a row of another element type stays, whatever is appended to a row -/
theorem own_other {w w' : World} {b b' n n' sz sz' : Nat} {e e' : TypeId} {v v' : Value} {xs xs' : List Value} (h : w.ownsRow b e sz v n xs) (h' : w.ownsRow b' e' sz' v' n' xs') (he : e ≠ e') (hg : w.grownBy w' v'.ownBlock) : w'.ownsRow b e sz v n xs := by
  refine ⟨h.1, ?_⟩
  rcases h.2 with h3 | ⟨g, cap, cur, rfl, hg', hh, r⟩
  · exact .inl h3
  · refine .inr ⟨g, cap, cur, rfl, hg', (hg.block g (Array.getElem?_eq_some_iff.1 hh).1 ?_).trans hh, r⟩
    intro hb
    rcases h'.2 with ⟨rfl, _⟩ | ⟨g2, cap2, cur2, rfl, _, hh2, _⟩
    · simp [Value.ownBlock] at hb
    · simp [Value.ownBlock] at hb
      subst hb
      rw [hh] at hh2
      simp at hh2
      exact he hh2.2
def Twins (w : World) (base : Nat) (vs : List Value) (xss : List (List Rg)) : Prop := ∀ (j : Nat) (h : j < vs.length) (h' : j < xss.length), w.ownsRow base 37 2 vs[j] xss[j].length (fl xss[j])
theorem Twins.sets {w : World} {base c : Nat} {A : Option Addr} {vs : List Value} {xss : List (List Rg)} (hv : vs.length = xss.length) (h : Twins w base vs xss) (hown : w.ownsRow base 23 1 (.slice A xss.length c) xss.length vs) : Sets w w.heap.size A xss := by
  rcases Rd.of_own hown with h0 | ⟨b, off, rfl, hb, hc⟩
  · left
    rw [h0] at hv
    exact List.eq_nil_of_length_eq_zero hv.symm
  · refine .inr ⟨b, off, rfl, hb, fun k hk => ?_⟩
    have ho := h k (by omega) hk
    obtain ⟨A', c', e, _, _⟩ : ∃ A' c', vs[k] = .slice A' xss[k].length c' ∧ xss[k].length ≤ c' ∧ True := by
      rcases ho.2 with ⟨h3, h4⟩ | ⟨g, cap, cur, h3, _, _, hn, _⟩
      · exact ⟨none, 0, by rw [h3, h4], by omega, trivial⟩
      · exact ⟨_, cap, h3, hn, trivial⟩
    rw [e] at ho
    exact ⟨A', c', by rw [hc k (by omega), e], Rd.of_own2 ho⟩
theorem Twins.step {w w' : World} {base n sz : Nat} {v : Value} {vs us : List Value} {xss : List (List Rg)} (h : Twins w base vs xss) (hown : w.ownsRow base 23 sz v n us) (hg : w.grownBy w' v.ownBlock) : Twins w' base vs xss :=
  fun j hj hj' => own_other (h j hj hj') hown (by decide) hg
theorem Twins.below {w w' : World} {base : Nat} {vs : List Value} {xss : List (List Rg)} (h : Twins w base vs xss) (hb : Below w.heap.size w w') : Twins w' base vs xss :=
  fun j hj hj' => own_below (h j hj hj') hb (own_lt (h j hj hj'))
theorem Twins.add {w : World} {base : Nat} {vs : List Value} {v : Value} {xss : List (List Rg)} (h : Twins w base vs xss) (hl : vs.length < xss.length) (ho : w.ownsRow base 37 2 v xss[vs.length].length (fl xss[vs.length])) : Twins w base (vs ++ [v]) xss := by
  intro j hj hj'
  by_cases hlt : j < vs.length
  · have e : (vs ++ [v])[j] = vs[j] := List.getElem_append_left hlt
    rw [e]
    exact h j hlt hj'
  · obtain rfl : j = vs.length := by simp at hj; omega
    simpa using ho
theorem law_many (A : Option Addr) (c : Nat) (xss : List (List Rg)) (w : World) (h : (20 : Int) < xss.length) (h2 : (xss.length : Int) ≤ 256 ∨ (300 : Int) < xss.length) :
    Calls Try.prog 3 #[.slice A xss.length c] w fun e w' => e = .returned (.bool true) ∧ Below w.heap.size w w' := by
  by_cases h3 : (xss.length : Int) ≤ 256
  · go_enter Try.func3, Try.ntmps3
    go_wp2
    all_goals go_ret
    all_goals exact ⟨rfl, Below.refl _ _⟩
  · have h4 : (300 : Int) < xss.length := by omega
    clear h2
    go_enter Try.func3, Try.ntmps3
    go_wp2
    all_goals go_ret
    all_goals exact ⟨rfl, Below.refl _ _⟩
set_option maxHeartbeats 8000000 in
theorem law_any (A : Option Addr) (c : Nat) (xss : List (List Rg)) (w : World) (hx : Sets w w.heap.size A xss) (hn : xss.length ≤ 20 ∨ 256 < xss.length ∧ xss.length ≤ 300) (hml : ∀ l ∈ xss, l.length ≤ maxLen) :
    Calls Try.prog 3 #[.slice A xss.length c] w fun e w' => e = .returned (.bool true) ∧ Below w.heap.size w w' := by
  obtain ⟨i1, hi, hz0, hz1, hz2⟩ := info_parts info_set
  have hn2 : xss.length ≤ 20 ∨ 256 < xss.length := by omega
  have hn3 : xss.length ≤ 300 := by omega
  have hd1 : (decide ((20 : Int) < xss.length) && decide ((xss.length : Int) ≤ 256)) = false := by simp; omega
  have hgI : ¬ (300 : Int) < xss.length := by omega
  have hcase : (¬ (20 : Int) < xss.length) ∨ ((20 : Int) < xss.length ∧ ¬ ((xss.length : Int) ≤ 256)) := by omega
  have HN2 := Lib.hid hn2
  clear hn hn2 hd1
  rcases hcase with hc1 | ⟨hc1, hc2⟩
  all_goals
    go_enter Try.func3, Try.ntmps3
    go_wp2
    go_loopw [3, 4] (fun v i wr => ∃ (k : Nat) (vs : List Value), k ≤ xss.length ∧ vs.length = k ∧ i = .int .i64 k ∧ (∀ j, (h : j < xss.length) → j < k → xss[j].length ≤ 20) ∧ wr.ownsRow w.heap.size 23 1 v k vs ∧ Twins wr w.heap.size vs xss ∧ Below w.heap.size w wr) (fun _ i _ => xss.length - (intOf i).toNat)
    case atStart => exact ⟨0, [], Nat.zero_le _, rfl, rfl, fun j _ h => absurd h (Nat.not_lt_zero _), World.ownsRow_nil _ _ _ _, fun j h => absurd h (Nat.not_lt_zero _), Below.refl _ _⟩
    case round =>
      obtain ⟨k, vs, hk, hvk, rfl, hsm, hown, htw, hb⟩ := hrel
      have hbs := hb.size
      by_cases hlt : k < xss.length
      · obtain ⟨b, off, A1, c1, rfl, hbB, hr1, hg⟩ := (hx.thru hb (Nat.le_refl _)).get hlt
        have hcell := hg wr.heap.size wr (by omega) (Below.refl _ _)
        have hmx := hml _ (List.getElem_mem hlt)
        unfold maxLen at hmx
        have HG := Lib.hid hg
        have HX := Lib.hid hx
        have HSM := Lib.hid hsm
        have HOWN := Lib.hid hown
        have HTW := Lib.hid htw
        have HML := Lib.hid hml
        clear hg hx hsm hown htw hml
        by_cases h20 : xss[k].length ≤ 20
        · have htwin := twin_ref A1 c1 xss[k] wr hr1 (by omega)
          have hnx : ∀ (V : Value) (W : World), vs.length = k → Twins W w.heap.size vs xss → W.ownsRow w.heap.size 37 2 V xss[k].length (fl xss[k]) → Twins W w.heap.size (vs ++ [V]) xss := fun V W e h1 h2 => by
            subst e
            exact h1.add hlt h2
          have HSM2 : Hid (∀ j, (h : j < xss.length) → j < k + 1 → xss[j].length ≤ 20) := Lib.hid fun j h hj => by
            by_cases hjk : j = k
            · subst hjk; exact h20
            · exact HSM.out j h (by omega)
          obtain ⟨ys, hys⟩ : ∃ ys, xss[k] = ys := ⟨_, rfl⟩
          rw [hys] at htwin hcell h20 hnx
          have HNX := Lib.hid hnx
          have h20I : ¬ (20 : Int) < ys.length := by omega
          clear hys hmx hr1 hnx
          go_wp2_with fail
          refine htwin.mono ?_
          rintro e w1 ⟨V, rfl, hoV, hb1⟩
          obtain ⟨A3, c3, rfl⟩ : ∃ A3 c3, V = .slice A3 ys.length c3 := by
            rcases hoV.2 with ⟨h3, h4⟩ | ⟨g, cap, cur, h3, _⟩
            · exact ⟨none, 0, by rw [h3, h4]⟩
            · exact ⟨_, cap, h3⟩
          have hone : ∀ u ∈ [Value.slice A3 ys.length c3], u.oneCell' = true := by
            intro u hu
            simp at hu
            subst hu
            rfl
          have hb1s := hb1.size
          have hB1 := hb.trans (hb1.mono hbs)
          have hown1 := own_below HOWN.out hb1 (own_lt HOWN.out)
          have htw1 := HTW.out.below hb1
          have hoV2 := own_base hoV hbs
          obtain ⟨A2, c2, rfl, hc2, hc3⟩ := own_slice hown1
          have hown2 := hown1.alloc (.cells #[Value.slice A3 ys.length c3] 23)
          have hB2 : Below w.heap.size w (w1.alloc (.cells #[Value.slice A3 ys.length c3] 23)) := hB1.alloc (by omega) _
          have hoV3 := hoV2.alloc (.cells #[Value.slice A3 ys.length c3] 23)
          have htw2 : Twins (w1.alloc (.cells #[Value.slice A3 ys.length c3] 23)) w.heap.size vs xss := fun j hj hj' => (htw1 j hj hj').alloc _
          have hszA : w.heap.size ≤ (w1.alloc (.cells #[Value.slice A3 ys.length c3] 23)).heap.size := by simp; omega
          have HTW2 := Lib.hid htw2
          have HOV3 := Lib.hid hoV3
          clear htwin htw1 hoV2 hoV hown1 hb1 htw2 hoV3
          go_wp2_with (at_builtin; refine wpList_append_rd _ (by rfl) _ _ _ (by rfl) w.heap.size 23 i1 (.slice none 0 0) 24 Try.underlying22 hi hz0 hz1 hz2 (by rfl) (.slice A2 k c2) k vs (by rfl) hown2 (B := (w1.heap.size + 1)) (some ⟨w1.heap.size, 0, none⟩) 1 1 [Value.slice A3 ys.length c3] (by rfl) (rd_new w1 #[Value.slice A3 ys.length c3] 23 _ rfl) rfl hone (by unfold maxLen; omega) (by omega) hszA ?_; intro v2 w3 ho3 hg3 hr3)
          have hB3 : Below w.heap.size w w3 := hB2.grown hg3 hszA hr3
          have htw3 := HTW2.out.step hown2 hg3
          have hoV4 := own_other HOV3.out hown2 (by decide) hg3
          go_wp2
          refine ⟨⟨k + 1, vs ++ [Value.slice A3 ys.length c3], hlt, by simp [hvk], by go_num, HSM2.out, ho3, HNX.out _ w3 hvk htw3 hoV4, hB3⟩, by simp [intOf]; omega⟩
        · have h20I : (20 : Int) < xss[k].length := by omega
          obtain ⟨ys, hys⟩ : ∃ ys, xss[k] = ys := ⟨_, rfl⟩
          rw [hys] at hcell h20I
          clear hys hr1 hmx h20
          go_wp2
          go_ret
          exact ⟨rfl, hb⟩
      · obtain rfl : k = xss.length := by omega
        have hl : ∀ l ∈ xss, l.length ≤ 20 := fun l hl => by
          obtain ⟨j, hj, rfl⟩ := List.getElem_of_mem hl
          exact hsm j hj hj
        obtain ⟨A2, c2, rfl, hc2, hc3⟩ := own_slice hown
        have hS := htw.sets hvk hown
        have hx1 := hx.thru hb (Nat.le_refl _)
        have h1 := cuts_any A2 c2 xss wr hS (Nat.le_refl _) HN2.out hl
        have h2 := fun W (q : Below wr.heap.size wr W) => cuts_ref A c xss W (hx1.thru q hbs) (Nat.le_trans hbs q.size) HN2.out hl
        have hl2 : ∀ (j : Nat) (h : j < xss.length), xss[j].length ≤ maxLen := fun j h => by have := hl _ (List.getElem_mem h); unfold maxLen; omega
        have hsame := fun (j : Nat) (hj : j < xss.length) (X Y : Option Addr) (cx cy : Nat) (W : World) (q1 : Rd W W.heap.size X (fl xss[j])) (q2 : Rd W W.heap.size Y (fl xss[j])) => same_ref X Y cx cy xss[j] W q1 q2 (hl2 j hj)
        have hRl : (cutsR xss).1.length ≤ maxLen := by
          unfold cutsR turnsL
          have h4 := List.length_filter_le (turnB xss) ((plcs xss).drop 1)
          have h5 := plcs_len xss hl
          simp only [List.length_drop] at h4
          split
          · simp
          · split
            · simp only [List.length_cons]
              unfold maxLen
              omega
            · simp
        have hints := fun (X Y : Option Addr) (cx cy : Nat) (W : World) (B1 B2 : Nat) (q1 : Rd W B1 X (iv (cutsR xss).1)) (q2 : Rd W B2 Y (iv (cutsR xss).1)) => ints_ref X Y cx cy (cutsR xss).1 W q1 q2 hRl
        obtain ⟨⟨L, E⟩, hR⟩ : ∃ R, cutsR xss = R := ⟨_, rfl⟩
        unfold CutsPost at h1 h2
        rw [hR] at h1 h2 hints
        have HINTS := Lib.hid hints
        have HSAME := Lib.hid hsame
        have H2 := Lib.hid h2
        have HX1 := Lib.hid hx1
        have HS := Lib.hid hS
        have HB := Lib.hid hb
        clear hR hRl hl2 hl hS hx1 h2 hints hsame hown htw hsm hml hx hb
        go_wp2_with fail
        refine h1.mono ?_
        rintro e w1 ⟨X, cx, rfl, hrx, hb1⟩
        have hb1s := hb1.size
        have h3 := H2.out w1 hb1
        clear h1
        go_wp2_with fail
        refine h3.mono ?_
        rintro e w2 ⟨Y, cy, rfl, hry, hb2⟩
        have hb2s := hb2.size
        have hB12 := hb1.trans (hb2.mono hb1s)
        have hrx2 := hrx.thru hb2 (Nat.le_refl _)
        have hS2 := HS.out.thru hB12 (Nat.le_refl _)
        have hX2 := HX1.out.thru hB12 hbs
        have HRX := Lib.hid hrx2
        have HRY := Lib.hid hry
        have HB2 := Lib.hid (HB.out.trans (hB12.mono hbs))
        clear h3 hrx hrx2 hry hb1 hb2 hB12
        have hb1s' : wr.heap.size ≤ w2.heap.size := by omega
        have hws : w.heap.size ≤ w2.heap.size := by omega
        obtain ⟨wo, hwo⟩ : ∃ wo : World, wo = w2 := ⟨_, rfl⟩
        subst hwo
        go_wp2
        go_loopw [9] (fun i wr => ∃ k : Nat, k ≤ xss.length ∧ i = .int .i64 k ∧ Hid (∃ n, wr = wo.drewN n)) (fun i _ => xss.length - (intOf i).toNat)
        case atStart => exact ⟨0, Nat.zero_le _, rfl, Lib.hid ⟨0, rfl⟩⟩
        case round =>
          obtain ⟨j, hj, rfl, hq⟩ := hrel
          have hall : ∀ p : Addr, wr.cell? p = wo.cell? p := by obtain ⟨n, rfl⟩ := hq.out; exact fun _ => rfl
          have hsz : wr.heap.size = wo.heap.size := by obtain ⟨n, rfl⟩ := hq.out; rfl
          by_cases hlj : j < xss.length
          · obtain ⟨b1, o1, X1, cx1, hA2, hb1, hr1, hg1⟩ := hS2.get hlj
            obtain ⟨b2, o2, X2, cx2, hA, hb2, hr2, hg2⟩ := hX2.get hlj
            have hcell1 := (hall _).trans (hg1 _ wo hb1s' (Below.refl _ _))
            have hcell2 := (hall _).trans (hg2 _ wo hws (Below.refl _ _))
            have hs : ∀ n, Calls Try.prog 7 #[.slice X1 xss[j].length cx1, .slice X2 xss[j].length cx2] (wr.drewN n) fun e w' => e = .returned (.bool true) ∧ ∃ m, w' = (wr.drewN n).drewN m := fun n =>
              HSAME.out j hlj X1 X2 cx1 cx2 (wr.drewN n) (hr1.keep (by show _ ≤ wr.heap.size; omega) fun p _ => hall p) (hr2.keep (by show _ ≤ wr.heap.size; omega) fun p _ => hall p)
            have hq2 : ∀ n, ∃ m, wr.drewN n = wo.drewN m := fun n => by obtain ⟨m, rfl⟩ := hq.out; exact ⟨_, World.drewN_drewN ..⟩
            obtain ⟨ys, hys⟩ : ∃ ys, xss[j] = ys := ⟨_, rfl⟩
            rw [hys] at hs hcell1 hcell2
            have HS2 := Lib.hid hS2
            have HX2 := Lib.hid hX2
            clear hys hr1 hr2 hg1 hg2 hall hS2 hX2
            subst hA2
            subst hA
            go_wp2
            first | go_quiet ((go_at_call 7; with_reducible exact Calls.quiet_of (hs _))) | fail
            go_wp2
            exact ⟨⟨j + 1, hlj, by go_num, Lib.hid (hq2 _)⟩, by simp [intOf]; omega⟩
          · obtain rfl : j = xss.length := by omega
            have hi2 := HINTS.out X Y cx cy wr _ _ (HRX.out.keep (Nat.le_refl _) fun p _ => hall p) (HRY.out.keep (Nat.le_refl _) fun p _ => hall p)
            have hfin : ∀ n, Below w.heap.size w (wr.drewN n) := fun n => by
              obtain ⟨m, rfl⟩ := hq.out
              exact (HB2.out.drewN' m).drewN' n
            clear hall
            go_wp2_with fail
            refine hi2.mono ?_
            rintro e w3 ⟨rfl, n, rfl⟩
            clear hi2
            go_wp2
            go_ret
            exact ⟨ret_bool (by simp), hfin n⟩
end Go.Proofs.Ytlndfkanbibhhaa
