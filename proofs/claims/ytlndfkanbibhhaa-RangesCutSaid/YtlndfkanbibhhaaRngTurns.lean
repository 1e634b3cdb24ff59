/- provostref06.Turns and Cuts: the cuts of sets. Conditions: at most 20 sets of at most 20 ranges, or more than 256 sets. -/
import Derived.Test.YtlndfkanbibhhaaRngPlaces
namespace Go.Proofs.Ytlndfkanbibhhaa
open Go.RowKit
theorem own_ge {w : World} {base n : Nat} {e : TypeId} {sz : Nat} {v : Value} {xs : List Value} (h : w.ownsRow base e sz v n xs) : ∀ k, v.ownBlock = some k → base ≤ k := fun k hk => (h.lt k hk).1
def outT (xss : List (List Rg)) (ps : List Int) (i : Nat) : List Int := 0 :: ((ps.take i).drop 1).filter (turnB xss)
theorem outT_succ {xss : List (List Rg)} {ps : List Int} {i : Nat} (h0 : 1 ≤ i) (h : i < ps.length) : outT xss ps (i + 1) = outT xss ps i ++ (if turnB xss ps[i] then [ps[i]] else []) := by
  unfold outT
  rw [List.take_succ_eq_append_getElem h, List.drop_append_of_le_length (by rw [List.length_take]; omega), List.filter_append]
  cases h : turnB xss ps[i] <;> simp [h]
theorem outT_len (xss : List (List Rg)) (ps : List Int) (i : Nat) : (outT xss ps i).length ≤ ps.length + 1 := by
  unfold outT
  have := List.length_filter_le (turnB xss) ((ps.take i).drop 1)
  simp at this ⊢
  omega
theorem turn_nil (p : Int) : turnB [] p = false := rfl
set_option maxHeartbeats 4000000 in
theorem turns_ref (A : Option Addr) (c : Nat) (xss : List (List Rg)) (w : World) {B : Nat} (hx : Sets w B A xss) (hB : B ≤ w.heap.size) (hn : xss.length ≤ 20) (hl : ∀ l ∈ xss, l.length ≤ 20) (ho : ∀ l ∈ xss, ∀ r ∈ l, oneB r = true) :
    Calls Try.prog 17 #[.slice A xss.length c] w (IntsPost w (turnsL xss)) := by
  obtain ⟨i1, hi, hz0, hz1, hz2⟩ := info_parts info_int
  have hpl := places_ref A c xss w hx hB hn hl ho
  have hbd := plcs_bd xss ho
  have hpos := plcs_pos xss
  have hle := plcs_len xss hl
  have hT : turnsL xss = outT xss (plcs xss) (plcs xss).length := by unfold turnsL outT; rw [List.take_length]
  obtain ⟨ps, hps⟩ : ∃ ps, plcs xss = ps := ⟨_, rfl⟩
  rw [hps] at hpl hbd hpos hle hT
  rw [hT]
  have hle2 : ps.length ≤ 801 := by omega
  have hl2 : ∀ (k : Nat) (h : k < xss.length), xss[k].length ≤ 20 := fun k h => hl _ (List.getElem_mem h)
  clear hps hT ho hl hle
  go_enter Try.func17, Try.ntmps17
  go_wp2_with fail
  refine hpl.mono ?_
  rintro e w1 ⟨A1, c1, rfl, hc1, hrd, hb1⟩
  have hb1s := hb1.size
  have hx1 := hx.thru hb1 hB
  clear hpl hx
  go_wp2
  go_loopw [4, 5] (fun v j wr => ∃ (i : Nat), 1 ≤ i ∧ i ≤ ps.length ∧ j = .int .i64 i ∧ wr.ownsRow w1.heap.size 3 1 v (outT xss ps i).length (iv (outT xss ps i)) ∧ Below w1.heap.size w1 wr) (fun _ j _ => ps.length - (intOf j).toNat)
  case atStart =>
    refine ⟨1, Nat.le_refl _, hpos, rfl, ?_, (Below.refl _ _).alloc (Nat.le_refl _) _⟩
    have e : outT xss ps 1 = [0] := by
      unfold outT
      rw [List.drop_of_length_le (by rw [List.length_take]; omega)]
      rfl
    rw [e]
    exact ⟨rfl, .inr ⟨w1.heap.size, 1, #[.int .i64 0], rfl, Nat.le_refl _, heap_alloc_new _ _, Nat.le_refl _, by unfold maxLen; omega, rfl, rfl⟩⟩
  case round =>
    obtain ⟨i, hi0, hil, rfl, hown, hb⟩ := hrel
    obtain ⟨wo, hwo⟩ : ∃ wo : World, wo = wr := ⟨_, rfl⟩
    subst hwo
    have hbs := hb.size
    have hlenO := outT_len xss ps i
    obtain ⟨A3, c3, rfl, hc3, _⟩ := own_slice hown
    by_cases hlt : i < ps.length
    · obtain ⟨b1, o1, rfl, hb1B, q1⟩ := (hrd.thru hb (Nat.le_refl _)).int hlt
      have hp := q1 i hlt
      have hpb := hbd _ (List.getElem_mem hlt)
      have hsucc := outT_succ (xss := xss) hi0 hlt
      obtain ⟨p, hpe⟩ : ∃ p, ps[i] = p := ⟨_, rfl⟩
      rw [hpe] at hp hpb hsucc
      have HS := Lib.hid hsucc
      obtain ⟨V, hV⟩ : ∃ V, turnB xss p = V := ⟨_, rfl⟩
      have HV := Lib.hid hV
      have HB := Lib.hid hb
      have HO := Lib.hid hown
      have HX1 := Lib.hid hx1
      have hwp : IntKind.i64.wrap (p - 1) = p - 1 := by rw [IntKind.wrap_i64]; omega
      have HRD := Lib.hid hrd
      have HBD := Lib.hid hbd
      have hxo := hx1.thru hb (by omega)
      clear hsucc hV hb hown q1 hpe hx1 hrd hbd
      go_wp2
      go_loopw [6, 7] (fun t j wr => ∃ (k : Nat) (T : Bool), k ≤ xss.length ∧ j = .int .i64 k ∧ t = .bool T ∧ (T || turnB (xss.drop k) p) = V ∧ Hid (∃ n, wr = wo.drewN n)) (fun _ j _ => xss.length - (intOf j).toNat)
      case atStart => exact ⟨0, false, Nat.zero_le _, rfl, rfl, by rw [List.drop_zero, HV.out]; rfl, Lib.hid ⟨0, rfl⟩⟩
      case round =>
        obtain ⟨k, T, hk, rfl, rfl, hd, hq⟩ := hrel
        have hall : ∀ q : Addr, wr.cell? q = wo.cell? q := by obtain ⟨n, rfl⟩ := hq.out; exact fun _ => rfl
        have hpw := (hall _).trans hp
        by_cases hlk : k < xss.length
        · rw [turn_drop hlk] at hd
          have hq2 : ∀ n, ∃ m, wr.drewN n = wo.drewN m := fun n => by obtain ⟨m, rfl⟩ := hq.out; exact ⟨_, World.drewN_drewN ..⟩
          cases T
          · obtain ⟨b, off, A2, c2, rfl, hbl, hr2, hg⟩ := hxo.get hlk
            have hcell := (hall _).trans (hg _ wo (by omega) (Below.refl _ _))
            have hlen2 := hl2 k hlk
            have hh : ∀ (z : Int) (n : Nat), Calls Try.prog 24 #[.slice A2 xss[k].length c2, .int .i64 z] (wr.drewN n) fun e w' => e = .returned (.bool (hasB xss[k] z)) ∧ w' = wr.drewN n := fun z n =>
              has_ref A2 c2 xss[k] z _ (hr2.keep (Nat.le_refl _) fun q _ => hall q) (by unfold maxLen; omega)
            obtain ⟨ys, hys⟩ : ∃ ys, xss[k] = ys := ⟨_, rfl⟩
            rw [hys] at hh hcell hd
            obtain ⟨H1, hH1⟩ : ∃ H, hasB ys p = H := ⟨_, rfl⟩
            obtain ⟨H2, hH2⟩ : ∃ H, hasB ys (p - 1) = H := ⟨_, rfl⟩
            have hh1 := hh p
            have hh2 := hh (p - 1)
            rw [hH1] at hh1 hd
            rw [hH2] at hh2 hd
            have HD := Lib.hid hd
            have HXO := Lib.hid hxo
            clear hh hys hlen2 hr2 hg hall hd hxo hp
            go_wp2
            first | go_quiet ((first | (go_at_call 24; with_reducible exact Calls.quiet_of_same (hh1 _)) | (go_at_call 24; with_reducible exact Calls.quiet_of_same (hh2 _)))) | fail
            go_wp2
            exact ⟨⟨k + 1, (H1 != H2), hlk, by go_num, by first | rfl | simp, by rw [← HD.out]; simp, Lib.hid (hq2 _)⟩, by simp [intOf]; omega⟩
          · have hd' : (true || turnB (xss.drop (k + 1)) p) = V := by rw [← hd]; simp
            clear hd hall hp hpw
            go_wp2
            first | go_quiet (fail) | fail
            go_wp2
            exact ⟨⟨k + 1, true, hlk, by go_num, rfl, hd', Lib.hid (hq2 _)⟩, by simp [intOf]; omega⟩
        · obtain rfl : k = xss.length := by omega
          rw [List.drop_length, turn_nil, Bool.or_false] at hd
          subst hd
          have hownR : wr.ownsRow w1.heap.size 3 1 (.slice A3 (outT xss ps i).length c3) (outT xss ps i).length (iv (outT xss ps i)) := by obtain ⟨n, rfl⟩ := hq.out; exact HO.out
          have hbR : Below w1.heap.size w1 wr := by obtain ⟨n, rfl⟩ := hq.out; exact HB.out.trans (Below.of_drewN _ _ _)
          have hszR := hbR.size
          have hE := HS.out
          rw [HV.out] at hE
          obtain ⟨O, hOO⟩ : ∃ O, outT xss ps i = O := ⟨_, rfl⟩
          rw [hOO] at hownR hE hlenO ⊢
          have HE := Lib.hid hE
          clear hE hall hOO hp hxo
          cases T
          · go_wp2
            refine ⟨⟨i + 1, by omega, hlt, by go_num, ?_, hbR⟩, by simp [intOf]; omega⟩
            rw [HE.out]
            simpa using hownR
          · go_wp2_with (at_builtin; refine wpList_append_rd _ (by rfl) _ _ _ (by rfl) w1.heap.size 3 i1 (.int .i64 0) 8 Try.underlying25 hi hz0 hz1 hz2 (by rfl) (.slice A3 O.length c3) O.length (iv O) (by rfl) (hownR.alloc _) (B := (wr.heap.size + 1)) (some ⟨wr.heap.size, 0, none⟩) 1 1 (iv [p]) (by rfl) (rd_new wr #[.int .i64 p] 3 _ rfl) rfl iv_one (by unfold maxLen; omega) (by omega) (by simp; omega) ?_; intro v2 w3 ho2 hg2 hr2)
            have hb3 : Below w1.heap.size w1 w3 := (hbR.alloc hszR _).grown hg2 (by simp; omega) hr2
            go_wp2
            refine ⟨⟨i + 1, by omega, hlt, by go_num, ?_, hb3⟩, by simp [intOf]; omega⟩
            rw [HE.out]
            have e : iv O ++ iv [p] = iv (O ++ [p]) := by simp [iv]
            rw [e] at ho2
            simpa using ho2
    · obtain rfl : i = ps.length := by omega
      have hR := Rd.of_own hown
      clear hown
      go_wp2
      go_ret
      exact ⟨A3, c3, rfl, hc3, hR, hb1.trans (hb.mono hb1s)⟩
def cutsR (xss : List (List Rg)) : List Int × Int := if 256 < xss.length then ([], 4) else if xss.all mayB then (turnsL xss, 0) else ([], 8)
def CutsPost (w : World) (R : List Int × Int) (e : Ending) (w' : World) : Prop := ∃ A' c', e = .returned (.tuple #[.slice A' R.1.length c', .int .i64 R.2]) ∧ Rd w' w'.heap.size A' (iv R.1) ∧ Below w.heap.size w w'
end Go.Proofs.Ytlndfkanbibhhaa
