/- TextPuts: for any numbers the program's text of them, or its error, is the reference's, and the numbers stay: the call returns true. Conditions: none. -/
import Derived.Test.YtllfgkfcbicnlaaRows
import Derived.Test.YtllfgkfcbicnlaaTextPut
namespace Go.Proofs.Ytllfgkfcbicnlaa.textPuts
open Go.ChangeShapes Go.WideShapes Go.ChangeAt Go.RowKit

section
variable {H : Type} {enc : TypeId × Value → H} {W : World}
theorem open_iv {t : TypeId} {r : Reach} {b0 : Nat} {v : Value} {d : DataW H} {p : List MemPlace} (ht : Try.prog.underlying t = some (.slice 3)) (hv : Value.okWide Try.prog W r b0 t v)
    (h : DataW.Trod enc Try.prog W 0 (fun _ => true) true t v d p) (hlt : ∀ x ∈ p, x.block < W.heap.size) :
    ∃ (A : Option Addr) (c : Nat) (xs : List Int), v = .slice A xs.length c ∧ Rd W W.heap.size A (iv xs) ∧ (∀ x ∈ xs, (Lit.int .i64 x).wf = true) := by
  obtain ⟨a0, len, cap, rfl⟩ := okWide_slice ht hv
  obtain ⟨fuel, hf⟩ := h
  rcases open_ints ht Try.underlying3 (by kernel_rfl) hf with ⟨hcs, hx⟩ | ⟨a, len', cap', zs, hcs, _, hl, hm, hz, hx, hcell, hws⟩
  · simp [Value.cells] at hcs
    obtain ⟨rfl, rfl, rfl⟩ := hcs
    exact ⟨none, 0, [], rfl, Rd.nil, by simp⟩
  · simp [Value.cells] at hcs
    obtain ⟨rfl, rfl, rfl⟩ := hcs
    simp only [Prod.mk.injEq] at hx
    obtain ⟨rfl, rfl⟩ := hx
    simp only [if_true] at hz
    have hlen : (zs.take len).length = len := by rw [List.length_take]; omega
    refine ⟨some a, cap, zs.take len, by rw [hlen], ?_, fun s hs => hws s (List.mem_of_mem_take hs)⟩
    by_cases h0 : len = 0
    · left
      subst h0
      simp [iv]
    · obtain ⟨b, off, spot⟩ := a
      have hspot : spot = none := by simpa [Addr.add] using World.cell?_spot (hcell 0 (by omega))
      subst hspot
      have hbW : b < W.heap.size := hlt (.cell b off) (MemPlace.mem_row.2 ⟨0, by omega, by simp⟩)
      refine .inr ⟨b, off, rfl, hbW, fun j hj => ?_⟩
      have hj' : j < len := by have q := hj; simp only [iv, List.length_map, hlen] at q; exact q
      have := hcell j (by omega)
      rw [add_plain] at this
      rw [this]
      simp [iv, List.getD, List.getElem?_eq_getElem (show j < zs.length by omega)]
end

theorem walk (A : Option Addr) (c : Nat) (xs : List Int) (w : World) (hx : Rd w w.heap.size A (iv xs)) (hw : ∀ x ∈ xs, (Lit.int .i64 x).wf = true) :
    Calls Try.prog 3 #[.slice A xs.length c] w fun e w' => e = .returned (.bool true) ∧ Below w.heap.size w w' := by
  go_enter Try.func3, Try.ntmps3
  by_cases h1 : (17000 : Int) < xs.length
  · go_wp2
    all_goals go_ret
    all_goals exact ⟨rfl, Below.refl _ _⟩
  · by_cases h2 : (3000 : Int) < xs.length ∧ (xs.length : Int) ≤ 16384
    · obtain ⟨h2, h3⟩ := h2
      go_wp2
      all_goals go_ret
      all_goals exact ⟨rfl, Below.refl _ _⟩
    · have hn : xs.length ≤ 17000 := by omega
      have hs0 : (w.alloc (.cells #[] 3)).ownsRow w.heap.size 3 1 (.slice (some ⟨w.heap.size, 0, none⟩) 0 0) 0 [] := ⟨rfl, .inr ⟨w.heap.size, 0, #[], rfl, Nat.le_refl _, heap_alloc_new _ _, Nat.le_refl _, Nat.zero_le _, rfl, rfl⟩⟩
      have hb0 : Below w.heap.size w (w.alloc (.cells #[] 3)) := (Below.refl _ _).alloc (Nat.le_refl _) _
      have hsz0 : (w.alloc (.cells #[] 3)).heap.size = w.heap.size + 1 := by simp
      obtain ⟨i0, hi, hz0, hz1, hz2⟩ := info_parts (show (Try.prog.info? 3).map (fun i => (i.zero, i.size, i.bytes)) = some (some (.int .i64 0), 1, 8) by kernel_rfl)
      have hcase : ((3000 : Int) < xs.length ∧ (16384 : Int) < xs.length) ∨ ¬ (3000 : Int) < xs.length := by omega
      have hx0 : Rd (w.alloc (.cells #[] 3)) w.heap.size A (iv xs) := hx.thru hb0 (Nat.le_refl _)
      rcases A with _ | ad
      · obtain rfl : xs = [] := by
          rcases hx with h | ⟨b, off, h, _⟩
          · simpa [iv] using h
          · cases h
        clear hcase h1 h2 hn
        go_wp2_with fail
        refine (textput_any (some ⟨w.heap.size, 0, none⟩) 0 [] (w.alloc (.cells #[] 3)) (B := 0) Rd.nil (Nat.zero_le _) (by simp)).mono ?_
        rintro e w3 ⟨rfl, hb3⟩
        go_wp2_with fail
        refine (refput_any none c [] w3 (B := 0) Rd.nil (Nat.zero_le _) (by simp)).mono ?_
        rintro e w4 ⟨rfl, hb4⟩
        have hb : Below w.heap.size w w4 := (hb0.trans (hb3.mono (by omega))).trans (hb4.mono (by have := hb3.size; omega))
        go_wp2
        go_loopw [8] (fun i wr => i = .int .i64 0 ∧ wr = w4) (fun i _ => 0)
        case atStart => exact ⟨rfl, rfl⟩
        case round =>
          obtain ⟨rfl, rfl⟩ := hrel
          go_wp2
          go_ret
          exact ⟨ret_bool (by simp), hb⟩
      · rcases hcase with ⟨h3, h4⟩ | h3
        · go_wp2_with (first | (at_builtin; refine wpList_append_own _ rfl _ _ 22 rfl w.heap.size 3 i0 (.int .i64 0) 1 8 Try.underlying22 hi hz0 hz1 hz2 rfl (by decide) _ 0 [] rfl hs0 ad xs.length c (iv xs) rfl ?c1 ?c2 ?c3 ?c4 ?c5 ?c6 ?c7))
          case c1 => simp [iv]
          case c2 =>
            intro j u hj
            have hjl : j < (iv xs).length := (List.getElem?_eq_some_iff.1 hj).1
            obtain ⟨b, off, e, _, q⟩ := hx0.at' (k := j) hjl
            cases e
            rw [add_plain, q j hjl, ← hj, List.getElem?_eq_getElem hjl]
          case c3 =>
            intro u hu
            simp only [iv, List.mem_map] at hu
            obtain ⟨x, _, rfl⟩ := hu
            rfl
          case c4 => unfold maxLen; omega
          case c5 => omega
          case c7 =>
            intro v' w2 ho hg _
            have hb2 : Below w.heap.size w w2 := hb0.grown hg (by omega) (own_ge hs0)
            obtain ⟨A', c', rfl, _, _⟩ := own_slice ho
            go_wp2_with fail
            refine (textput_any A' c' xs w2 (B := w2.heap.size) (Rd.of_own ho) (Nat.le_refl _) hn).mono ?_
            rintro e w3 ⟨rfl, hb3⟩
            go_wp2_with fail
            refine (refput_any (some ad) c xs w3 (B := w.heap.size) ((hx.thru hb2 (Nat.le_refl _)).thru hb3 hb2.size) (Nat.le_trans hb2.size hb3.size) hn).mono ?_
            rintro e w4 ⟨rfl, hb4⟩
            have hb : Below w.heap.size w w4 := (hb2.trans (hb3.mono hb2.size)).trans (hb4.mono (Nat.le_trans hb2.size hb3.size))
            have hr1 : Rd w4 w2.heap.size A' (iv xs) := ((Rd.of_own ho).thru hb3 (Nat.le_refl _)).thru hb4 hb3.size
            have hr2 : Rd w4 w.heap.size (some ad) (iv xs) := hx.thru hb (Nat.le_refl _)
            go_wp2
            go_loopw [8] (fun i wr => ∃ k : Nat, k ≤ xs.length ∧ i = .int .i64 k ∧ Below w.heap.size w wr ∧ Rd wr w2.heap.size A' (iv xs) ∧ Rd wr w.heap.size (some ad) (iv xs)) (fun i _ => xs.length - (intOf i).toNat)
            case atStart => exact ⟨0, Nat.zero_le _, rfl, hb, hr1, hr2⟩
            case round =>
              clear hr1 hr2
              obtain ⟨k, hk, rfl, hbr, hr1, hr2⟩ := hrel
              by_cases hlt : k < xs.length
              · obtain ⟨b1, o1, rfl, _, q1⟩ := hr1.at' (k := k) (by simpa [iv] using hlt)
                obtain ⟨b2, o2, e2, _, q2⟩ := hr2.at' (k := k) (by simpa [iv] using hlt)
                cases e2
                replace q1 : wr.cell? ⟨b1, o1 + k, none⟩ = some (.int .i64 xs[k]) := by simpa [iv] using q1 k (by simpa [iv] using hlt)
                replace q2 : wr.cell? ⟨b2, o2 + k, none⟩ = some (.int .i64 xs[k]) := by simpa [iv] using q2 k (by simpa [iv] using hlt)
                go_wp2
                go_region
                go_wp2
                exact ⟨⟨k + 1, hlt, by go_num, hbr.drew, hr1, hr2⟩, by simp [intOf]; omega⟩
              · obtain rfl : k = xs.length := by omega
                go_wp2
                go_ret
                exact ⟨ret_bool (by simp), hbr⟩
        · go_wp2_with (first | (at_builtin; refine wpList_append_own _ rfl _ _ 22 rfl w.heap.size 3 i0 (.int .i64 0) 1 8 Try.underlying22 hi hz0 hz1 hz2 rfl (by decide) _ 0 [] rfl hs0 ad xs.length c (iv xs) rfl ?d1 ?d2 ?d3 ?d4 ?d5 ?d6 ?d7))
          case d1 => simp [iv]
          case d2 =>
            intro j u hj
            have hjl : j < (iv xs).length := (List.getElem?_eq_some_iff.1 hj).1
            obtain ⟨b, off, e, _, q⟩ := hx0.at' (k := j) hjl
            cases e
            rw [add_plain, q j hjl, ← hj, List.getElem?_eq_getElem hjl]
          case d3 =>
            intro u hu
            simp only [iv, List.mem_map] at hu
            obtain ⟨x, _, rfl⟩ := hu
            rfl
          case d4 => unfold maxLen; omega
          case d5 => omega
          case d7 =>
            intro v' w2 ho hg _
            have hb2 : Below w.heap.size w w2 := hb0.grown hg (by omega) (own_ge hs0)
            obtain ⟨A', c', rfl, _, _⟩ := own_slice ho
            go_wp2_with fail
            refine (textput_any A' c' xs w2 (B := w2.heap.size) (Rd.of_own ho) (Nat.le_refl _) hn).mono ?_
            rintro e w3 ⟨rfl, hb3⟩
            go_wp2_with fail
            refine (refput_any (some ad) c xs w3 (B := w.heap.size) ((hx.thru hb2 (Nat.le_refl _)).thru hb3 hb2.size) (Nat.le_trans hb2.size hb3.size) hn).mono ?_
            rintro e w4 ⟨rfl, hb4⟩
            have hb : Below w.heap.size w w4 := (hb2.trans (hb3.mono hb2.size)).trans (hb4.mono (Nat.le_trans hb2.size hb3.size))
            have hr1 : Rd w4 w2.heap.size A' (iv xs) := ((Rd.of_own ho).thru hb3 (Nat.le_refl _)).thru hb4 hb3.size
            have hr2 : Rd w4 w.heap.size (some ad) (iv xs) := hx.thru hb (Nat.le_refl _)
            go_wp2
            go_loopw [8] (fun i wr => ∃ k : Nat, k ≤ xs.length ∧ i = .int .i64 k ∧ Below w.heap.size w wr ∧ Rd wr w2.heap.size A' (iv xs) ∧ Rd wr w.heap.size (some ad) (iv xs)) (fun i _ => xs.length - (intOf i).toNat)
            case atStart => exact ⟨0, Nat.zero_le _, rfl, hb, hr1, hr2⟩
            case round =>
              clear hr1 hr2
              obtain ⟨k, hk, rfl, hbr, hr1, hr2⟩ := hrel
              by_cases hlt : k < xs.length
              · obtain ⟨b1, o1, rfl, _, q1⟩ := hr1.at' (k := k) (by simpa [iv] using hlt)
                obtain ⟨b2, o2, e2, _, q2⟩ := hr2.at' (k := k) (by simpa [iv] using hlt)
                cases e2
                replace q1 : wr.cell? ⟨b1, o1 + k, none⟩ = some (.int .i64 xs[k]) := by simpa [iv] using q1 k (by simpa [iv] using hlt)
                replace q2 : wr.cell? ⟨b2, o2 + k, none⟩ = some (.int .i64 xs[k]) := by simpa [iv] using q2 k (by simpa [iv] using hlt)
                go_wp2
                go_region
                go_wp2
                exact ⟨⟨k + 1, hlt, by go_num, hbr.drew, hr1, hr2⟩, by simp [intOf]; omega⟩
              · obtain rfl : k = xs.length := by omega
                go_wp2
                go_ret
                exact ⟨ret_bool (by simp), hbr⟩
theorem own : ownKnob Try.prog.godebug = none := by kernel_rfl
theorem laidOut : laidOutB Try.prog = true := by kernel_rfl
set_option maxRecDepth 100000 in
theorem lifted (os : Os) (started : os.Started) (H : Type) (enc : TypeId × Value → H) :
    ReturnsInHanded {} Try.checked os 3 .any (Rows.textPutsSpec.pre6 enc Try.prog Try.f3 Rows.textPutsRow.domain false) (Rows.textPutsSpec.post enc Try.prog Try.f3 false true false false) := by
  refine returnsInHanded_of_change_shaped (C := Try.checked) own started (by kernel_rfl) Try.func3
    (ChangeSpec.witness6 (enc := enc) (C := Try.checked) false ⟨#[], #[.slice none 0 0], []⟩ 8 (by kernel_rfl) (by kernel_rfl) (by kernel_rfl) (by kernel_rfl)) ?_
  intro W base args ds gs before hval0 hW _ hsz0 hsh0 _
  have hsh : W.ShapedOpen Try.prog := hsh0
  have hsz : (DataW.weightsEach Try.prog (Try.f3.params.toList ++ Rows.textPutsSpec.plain.varTypes Try.prog) (ds ++ gs)).all (· ≤ reachBytes) = true := hsz0
  clear hsz0 hsh0
  have hval : ∀ (j : Nat) t v, Try.f3.params[j]? = some t → args[j]? = some v → Value.okWide Try.prog W .any base t v := hval0
  have hW' := hW
  obtain ⟨p, q, hA0, hV, rfl, hfz, hnd⟩ := hW
  have hA : DataW.TrodAll enc Try.prog W 0 (fun _ => true) true Try.f3.params.toList args.toList ds p := hA0
  rw [Try.params3] at hA hval hsz
  have hlt0 : ∀ x ∈ p, x.block < W.heap.size := fun x hx => hW'.lt x (by simp [hx])
  obtain ⟨v0, vs0, d0, ds0, p0, q0, hargs, rfl, rfl, h0, r0⟩ := trodAll_cons hA
  obtain ⟨rfl, rfl, rfl⟩ := trodAll_nil r0
  obtain rfl : args = #[v0] := by cases args; simp_all
  obtain ⟨rfl, rfl⟩ := trodVars_none hV
  obtain ⟨Al, cl, l, rfl, hl, wl⟩ := open_iv Try.underlying22 (hval 0 22 v0 rfl rfl) h0 (fun y hy => hlt0 y (by simp [hy]))
  clear hA0 hval0
  refine (walk Al cl l W hl wl).mono fun e W' ⟨he, hb⟩ => ⟨_, he, ?_⟩
  exact law_post laidOut (of_decide_eq_true (by kernel_rfl)) rfl rfl Try.underlying4 (fun ds hl => by
    match ds, hl with
    | [_], _ => rfl) hW' hb

theorem proved : Rows.TextPutsSaid :=
  OpenClaim.holds_of_wide 3 Try.f3 rfl rfl rfl rfl rfl rfl rfl ⟨rfl, rfl, rfl, rfl, rfl⟩ rfl rfl rfl rfl rfl (by kernel_rfl) Try.func3 (by kernel_rfl)
    (of_decide_eq_true (by kernel_rfl)) (by unfold Func.isWrapper; first | (rw [if_pos (by decide +kernel)]; kernel_rfl) | (rw [if_neg (by decide +kernel)]; exact ⟨rfl, rfl⟩))
    (fun os started H enc _ => lifted os started H enc)
end Go.Proofs.Ytllfgkfcbicnlaa.textPuts
