/- The reference's twin of a record; whether a record may be. Conditions: lengths within the model's. The reference's One: whether a record may be. Conditions: lengths within the model's. The reference's Value: a record's value of a name. Conditions: lengths within the model's; the record's data may be. The reference's clash: do two records clash by one of some names. Conditions: lengths within the model's; both records' data may be. -/
import Derived.Test.YtcgioepbooafcaaGreatDoorMIn
namespace Go.Proofs.YtcgioepbooafcaaGreatDoor
section
open Go.RowKit
theorem rtwin_data {xs : List Cel} (A : Option Addr) (cap : Nat) (w : World) {B : Nat} (hx : Rd w B A (cv xs)) (hn : xs.length ≤ 1000000000) :
    Calls Tryz.prog 48 #[.slice A xs.length cap] w fun e w' => ∃ A' c', e = .returned (.slice A' xs.length c') ∧ w'.ownsRow w.heap.size 47 5 (.slice A' xs.length c') xs.length (cv xs) ∧ Below w.heap.size w w' := by
  refine (twin_ref A cap w hx hn).mono fun e w' ⟨v, h1, h2, h3⟩ => ?_
  obtain ⟨A', c', rfl, h4, h5⟩ := own_slice h2
  exact ⟨A', c', h1, h2, h3⟩
theorem rec_put {w w5 : World} {base b n c : Nat} {T : TypeId} {id : ByteArray} {A : Option Addr} {x0 x1 : Value} {xs : List Value} (hb : Below base w w5) (h0 : w5.cell? ⟨b, 0, none⟩ = some x0) (h1 : w5.cell? ⟨b, 1, none⟩ = some x1) (ho : w5.ownsRow (b + 1) T 5 (.slice A n c) n xs) (hl : base ≤ b) :
    ((asAddr (.pointer (some ⟨b, 0, none⟩))).run Tryz.prog ((w5.setCell ⟨b, 0, none⟩ (.string id)).setCell ⟨b, 1, none⟩ (.slice A n c))).andThen (fun a w₁ => (loadVar 28 a).run Tryz.prog w₁) = .ok (.agg #[.string id, .slice A n c]) ((w5.setCell ⟨b, 0, none⟩ (.string id)).setCell ⟨b, 1, none⟩ (.slice A n c)) ∧
      ((w5.setCell ⟨b, 0, none⟩ (.string id)).setCell ⟨b, 1, none⟩ (.slice A n c)).ownsRow base T 5 (.slice A n c) n xs ∧ Below base w ((w5.setCell ⟨b, 0, none⟩ (.string id)).setCell ⟨b, 1, none⟩ (.slice A n c)) := by
  have q0 : ((w5.setCell ⟨b, 0, none⟩ (.string id)).setCell ⟨b, 1, none⟩ (.slice A n c)).cell? ⟨b, 0, none⟩ = some (.string id) := by
    rw [World.cell?_setCell_other _ _ _ _ (by simp)]
    exact World.cell?_setCell_same _ _ _ h0
  have q1 : ((w5.setCell ⟨b, 0, none⟩ (.string id)).setCell ⟨b, 1, none⟩ (.slice A n c)).cell? ⟨b, 1, none⟩ = some (.slice A n c) :=
    World.cell?_setCell_same _ _ _ ((World.cell?_setCell_other _ _ _ _ (by simp)).trans h1)
  refine ⟨load_rec1 _ _ _ _ q0 q1 ⟨_, rfl⟩ ⟨_, _, _, rfl⟩, own_base (((ho.kept (grown_set _ b 0 _) (own_ne_base ho (by omega))).kept (grown_set _ b 1 _) ?_)) (by omega), (hb.setCell (by exact hl) _).setCell (by exact hl) _⟩
  exact own_ne_base (ho.kept (grown_set _ b 0 (.string id)) (own_ne_base ho (by omega))) (by omega)
set_option maxRecDepth 100000 in
set_option maxHeartbeats 8000000 in
theorem rtwin_any (r : RecC) (A : Option Addr) (c : Nat) (w : World) {B : Nat} (h : Rd w B A (cv r.data)) (hB : B ≤ w.heap.size) (hn : r.data.length ≤ 1000000) :
    Calls Tryz.prog 23 #[.agg #[.string r.id, .slice A r.data.length c]] w fun e w' => TwinPost r w e w' := by
  obtain ⟨W1, hW1⟩ : ∃ W1, W1 = (w.alloc (.cells #[.string r.id, .slice A r.data.length c] 28)).alloc (.cells #[.string ⟨#[]⟩, .slice none 0 0] 28) := ⟨_, rfl⟩
  have hw1 : Below w.heap.size w W1 := by rw [hW1]; exact ((Below.refl _ _).alloc (Nat.le_refl _) _).alloc (by simp) _
  have kb : ∀ W, Below W1.heap.size W1 W → BoxesR w r.id A r.data.length c W := fun W q => boxes_mk w r.id A r.data.length c (by rw [← hW1]; exact q)
  have kc := fun W (q : Below W1.heap.size W1 W) => rtwin_data A c W (h.thru (hw1.trans (q.mono hw1.size)) hB) (by omega)
  unfold TwinPost
  obtain ⟨n, hnn⟩ : ∃ n, r.data.length = n := ⟨_, rfl⟩
  have hz : W1.heap.size = w.heap.size + 1 + 1 := by rw [hW1]; simp
  rw [hnn] at hW1 ⊢
  simp only [hnn] at kb kc
  have KB := Lib.hid kb
  have KC := Lib.hid kc
  have HW := Lib.hid hw1
  have HZ := Lib.hid hz
  clear h hB hn hnn kb kc hw1 hz
  obtain ⟨k0, k1, k2, k3, f2, f3, _⟩ := KB.out W1 (Below.refl _ _)
  have HW1 := Lib.hid hW1
  clear hW1
  go_enter Tryz.func23, Tryz.ntmps23
  go_wp2_with fail
  rw [← HW1.out]
  go_region_with ((go_at_call 48; (with_reducible refine (KC.out _ ?_).mono ?_); exact (by repeat (first | assumption | exact Below.refl _ _ | refine Below.drew ?_ | refine Below.alloc ?_ (by first | assumption | exact Nat.le_refl _ | omega | (simp; done) | (simp; omega)) _ | refine Below.setCell ?_ (by first | assumption | exact Nat.le_refl _ | omega | (simp; done) | (simp; omega)) _)); rintro e w5 ⟨A5, c5, rfl, ho5, hb5⟩; have hq5 : Below W1.heap.size W1 w5 := Below.trans (by repeat (first | assumption | exact Below.refl _ _ | refine Below.drew ?_ | refine Below.alloc ?_ (by first | assumption | exact Nat.le_refl _ | omega | (simp; done) | (simp; omega)) _ | refine Below.setCell ?_ (by first | assumption | exact Nat.le_refl _ | omega | (simp; done) | (simp; omega)) _)) (hb5.mono (by simp)); have y := KB.out w5 hq5; obtain ⟨y0, y1, y2, y3, g2, g3, yz⟩ := y))
  all_goals
    go_wp2_with fail
    obtain ⟨z1, z2, z3⟩ := rec_put (id := r.id) (HW.out.trans (hq5.mono HW.out.size)) y2 y3 (own_base ho5 (by have := HZ.out; simp; omega)) (Nat.le_succ _)
    refine bodyPost_ret (v := .agg #[.string r.id, .slice A5 n c5]) ?_ rfl ⟨A5, c5, rfl, z2, z3⟩
    rw [results_cell1 rfl]
    exact z1
end
section
open Go.RowKit
theorem memR_ofR {xs : List Cel} (hm : mayC xs = true) (nm : ByteArray) : memR xs 0 nm = ofR xs 0 nm := by
  have h0 : 0 < xs.length := by
    cases xs with
    | nil => cases hm
    | cons c r => simp
  have ha : askedC xs 0 = 0 := by rw [askedC, if_pos hm, if_pos (by omega)]
  unfold memR ofR
  by_cases h : kindAt xs 0 = 7
  · rw [if_pos ⟨ha, h⟩, if_pos h]; rfl
  · rw [if_neg (fun g => h g.2), if_neg h]
theorem oneR_not7 {r : RecC} (hm : mayC r.data = true) (h : kindAt r.data 0 ≠ 7) : oneR r = false := by
  unfold oneR
  rw [memR_ofR hm, ofR, if_neg h]
  simp [idOk]
theorem any_dropV {l : List Cel} {k : Nat} (h : k < l.length) : (l.drop k).any isV = (isV l[k] || (l.drop (k + 1)).any isV) := by
  rw [List.drop_eq_getElem_cons h, List.any_cons]
set_option maxRecDepth 100000 in
set_option maxHeartbeats 8000000 in
theorem rone_any (r : RecC) (A : Option Addr) (c : Nat) (w : World) {B : Nat} (h : InR r.data A w B) :
    Calls Tryz.prog 32 #[.agg #[.string r.id, .slice A r.data.length c]] w fun e w' => e = .returned (.bool (oneR r)) ∧ Below w.heap.size w w' := by
  obtain ⟨W1, hW1⟩ : ∃ W1, W1 = w.alloc (.cells #[.string r.id, .slice A r.data.length c] 28) := ⟨_, rfl⟩
  have hb1 : Below w.heap.size w W1 := by rw [hW1]; exact (Below.refl _ _).alloc (Nat.le_refl _) _
  have kk : ∀ W, Below W1.heap.size W1 W → W.cell? ⟨w.heap.size, 0, none⟩ = some (.string r.id) ∧ W.cell? ⟨w.heap.size, 1, none⟩ = some (.slice A r.data.length c) := by
    rw [hW1]
    exact fun W q => ⟨box_keep q 0 (by simp), box_keep q 1 (by simp)⟩
  have c1 := may_ref A c W1 (h.rd.thru hb1 h.le) (Nat.le_trans h.le hb1.size) h.len h.wf
  have HH := Lib.hid h
  have HB := Lib.hid hb1
  have HK := Lib.hid kk
  have hln := h.len
  obtain ⟨k0, k1⟩ := kk W1 (Below.refl _ _)
  cases hm : mayC r.data with
  | false =>
    have hv : oneR r = false := by rw [oneR, hm, Bool.false_and]
    rw [hv]
    rw [hm] at c1
    obtain ⟨n, hn⟩ : ∃ n, r.data.length = n := ⟨_, rfl⟩
    rw [hn] at c1 hW1 k1 ⊢
    clear h kk hm hv hn hln
    subst hW1
    go_enter Tryz.func32, Tryz.ntmps32
    go_wp2_with fail
    refine c1.mono ?_
    rintro e w1 ⟨rfl, q1⟩
    go_wp2
    go_ret
    exact ⟨rfl, HB.out.trans (q1.mono HB.out.size)⟩
  | true =>
    rw [hm] at c1
    have hpos := mayC_pos hm
    have cells : ∃ b off, A = some ⟨b, off, none⟩ ∧ b < B ∧ ∀ (j : Nat) (_ : j < r.data.length), CelAt w b (off + j * 5) r.data[j] := h.rd.cel hpos
    obtain ⟨b, off, rfl, hbl, hcel⟩ := cells
    have kc : ∀ W, Below W1.heap.size W1 W → ∀ (j : Nat) (_ : j < r.data.length), CelAt W b (off + j * 5) r.data[j] := fun W q j hj => (hcel j hj).keep fun o => ((hb1.trans (q.mono hb1.size)).cell (p := ⟨b, o, none⟩) (by have := h.le; show b < w.heap.size; omega))
    have HC := Lib.hid kc
    have HM := Lib.hid hm
    have k7 : kindAt r.data 0 = r.data[0].kind := by rw [kindAt, List.getElem?_eq_getElem hpos]
    have HN7 := Lib.hid (oneR_not7 (r := r) hm)
    have hone : oneR r = (!(r.data.any isV) && idOk r (ofR r.data 0 idB)) := by rw [oneR, hm, Bool.true_and, memR_ofR hm]
    have HO := Lib.hid hone
    have c8 := fun W (q : Below W1.heap.size W1 W) => of_ref (some ⟨b, off, none⟩) c 0 idB W (h.below (hb1.trans (q.mono hb1.size))) hm hpos
    have C8 := Lib.hid c8
    have HKD := Lib.hid k7
    obtain ⟨kd, hkd⟩ : ∃ kd, r.data[0].kind = kd := ⟨_, rfl⟩
    have g0 : ∀ W, Below W1.heap.size W1 W → W.cell? ⟨b, off, none⟩ = some (.int .u8 kd) := fun W q => by
      have := (kc W q 0 hpos).1
      rw [hkd] at this
      simpa using this
    have G0 := Lib.hid g0
    have HKD2 := Lib.hid hkd
    clear h kk kc hcel hm k7 hone c8 g0 hkd
    have HW1 := Lib.hid hW1
    clear hW1
    obtain ⟨V, hV⟩ : ∃ V, oneR r = V := ⟨_, rfl⟩
    rw [hV]
    have HV := Lib.hid hV
    clear hV
    have hpI : (0 : Int) < r.data.length := by omega
    go_enter Tryz.func32, Tryz.ntmps32
    go_wp2_with fail
    rw [← HW1.out]
    refine c1.mono ?_
    rintro e w1 ⟨rfl, q1⟩
    clear c1 k0 k1
    obtain ⟨k0, k1⟩ := HK.out w1 q1
    have g0 := G0.out w1 q1
    by_cases h7 : kd = 7
    · subst h7
      have h7e : ((7 : Int) != 7) = false := by decide
      go_wp2
      go_loop [3] (fun i => ∃ k : Nat, k ≤ r.data.length ∧ i = .int .i64 k ∧ (r.data.drop k).any isV = r.data.any isV) (fun i => r.data.length - (intOf i).toNat)
      case atStart => exact ⟨0, Nat.zero_le _, rfl, by rw [List.drop_zero]⟩
      case round =>
        obtain ⟨k, hk, rfl, hd⟩ := hrel
        by_cases hlt : k < r.data.length
        · rw [any_dropV hlt] at hd
          have g := (HC.out w1 q1 k hlt).1
          obtain ⟨x, hx⟩ : ∃ x, isV r.data[k] = x := ⟨_, rfl⟩
          rw [hx] at hd
          unfold isV at hx
          obtain ⟨y, hy⟩ : ∃ y, r.data[k].kind = y := ⟨_, rfl⟩
          rw [hy] at g hx
          have HD := Lib.hid hd
          clear hd hy
          cases x with
          | true =>
            have hv : V = false := by
              have := HD.out
              rw [Bool.true_or] at this
              rw [← HV.out, HO.out, ← this]
              rfl
            subst hv
            go_wp2
            go_ret
            exact ⟨rfl, HB.out.trans (q1.mono HB.out.size)⟩
          | false =>
            go_wp2
            go_round
            case rel => exact ⟨k + 1, hlt, by go_num, by have := HD.out; rwa [Bool.false_or] at this⟩
            case measure => simp [intOf]; omega
        · obtain rfl : k = r.data.length := by omega
          rw [List.drop_of_length_le (Nat.le_refl _)] at hd
          have hvO : V = idOk r (ofR r.data 0 idB) := by rw [← HV.out, HO.out, ← hd]; simp
          have c8 := C8.out w1 q1
          obtain ⟨o, ho⟩ : ∃ o, ofR r.data 0 idB = o := ⟨_, rfl⟩
          rw [ho] at hvO c8
          unfold idB at c8
          have HVO := Lib.hid hvO
          have HQ := Lib.hid ho
          clear hd hvO g0 ho
          cases o with
          | none =>
            simp only [ans] at c8
            obtain rfl : V = false := HVO.out
            go_wp2_with fail
            refine c8.mono ?_
            rintro e w2 ⟨rfl, q2⟩
            clear c8 k0 k1
            have d2 := q1.trans (q2.mono q1.size)
            obtain ⟨k0, k1⟩ := HK.out w2 d2
            go_wp2
            first | go_quiet (fail) | fail
            go_wp2
            go_ret
            exact ⟨rfl, (HB.out.trans (d2.mono HB.out.size)).drewN' _⟩
          | some q =>
            simp only [ans] at c8
            have hq : q < r.data.length := (memR_lt ((memR_ofR HM.out idB).trans HQ.out)).2.2.2.2
            have hqI : (q : Int) < r.data.length := by omega
            obtain ⟨kq, hkq⟩ : ∃ kq, kindAt r.data q = kq := ⟨_, rfl⟩
            obtain ⟨tx, htx⟩ : ∃ tx, textAt r.data q = tx := ⟨_, rfl⟩
            have hcq : ∀ W, Below W1.heap.size W1 W → W.cell? ⟨b, off + q * 5, none⟩ = some (.int .u8 kq) ∧ W.cell? ⟨b, off + q * 5 + 2, none⟩ = some (.string tx) := fun W qq => by
              have := HC.out W qq q hq
              rw [← hkq, ← htx, kindAt, textAt, List.getElem?_eq_getElem hq]
              exact ⟨this.1, this.2.2.1⟩
            have HCQ := Lib.hid hcq
            have hid' : V = (((kq : Int) == 3) && (tx.toList == r.id.toList)) := by rw [HVO.out, idOk, hkq, htx, ba_beq]
            clear hkq htx hcq HVO
            obtain ⟨X, hX⟩ : ∃ X, (tx.toList == r.id.toList) = X := ⟨_, rfl⟩
            rw [hX] at hid'
            cases h3 : ((kq : Int) == 3) with
            | false =>
              rw [h3, Bool.false_and] at hid'
              subst hid'
              go_wp2_with fail
              refine c8.mono ?_
              rintro e w2 ⟨rfl, q2⟩
              clear c8 k0 k1
              have d2 := q1.trans (q2.mono q1.size)
              obtain ⟨k0, k1⟩ := HK.out w2 d2
              obtain ⟨g0, g2⟩ := HCQ.out w2 d2
              go_wp2
              first | go_quiet (fail) | fail
              go_wp2
              go_ret
              exact ⟨rfl, (HB.out.trans (d2.mono HB.out.size)).drewN' _⟩
            | true =>
              rw [h3, Bool.true_and] at hid'
              subst hid'
              go_wp2_with fail
              refine c8.mono ?_
              rintro e w2 ⟨rfl, q2⟩
              clear c8 k0 k1
              have d2 := q1.trans (q2.mono q1.size)
              obtain ⟨k0, k1⟩ := HK.out w2 d2
              obtain ⟨g0, g2⟩ := HCQ.out w2 d2
              go_wp2
              first | go_quiet (fail) | fail
              go_wp2
              go_ret
              exact ⟨rfl, (HB.out.trans (d2.mono HB.out.size)).drewN' _⟩
    · have hne : ((kd : Int) != 7) = true := by rw [bne_iff_ne]; omega
      have hv : V = false := by rw [← HV.out]; exact HN7.out (by rw [HKD.out, HKD2.out]; exact h7)
      subst hv
      go_wp2
      go_ret
      exact ⟨rfl, HB.out.trans (q1.mono HB.out.size)⟩
end
section
open Go.RowKit
def RVal (xs : List Cel) (nm : ByteArray) (w : World) (e : Ending) (w' : World) : Prop := ∃ A c, e = .returned (.tuple #[.slice A (valL xs nm).length c, .bool (valO xs nm).isSome]) ∧ Rd w' w'.heap.size A (cv (valL xs nm)) ∧ Below w.heap.size w w'
set_option maxRecDepth 100000 in
set_option maxHeartbeats 8000000 in
theorem rvalue_any (r : RecC) (nm : ByteArray) (A : Option Addr) (c : Nat) (w : World) {B : Nat} (h : InR r.data A w B) (hm : mayC r.data = true) (hcap : r.data.length ≤ c) (hcm : c ≤ maxLen) :
    Calls Tryz.prog 70 #[.agg #[.string r.id, .slice A r.data.length c], .string nm] w fun e w' => RVal r.data nm w e w' := by
  obtain ⟨W1, hW1⟩ : ∃ W1, W1 = w.alloc (.cells #[.string r.id, .slice A r.data.length c] 28) := ⟨_, rfl⟩
  have hb1 : Below w.heap.size w W1 := by rw [hW1]; exact (Below.refl _ _).alloc (Nat.le_refl _) _
  have kk : ∀ W, Below W1.heap.size W1 W → W.cell? ⟨w.heap.size, 0, none⟩ = some (.string r.id) ∧ W.cell? ⟨w.heap.size, 1, none⟩ = some (.slice A r.data.length c) := by
    rw [hW1]
    exact fun W q => ⟨box_keep q 0 (by simp), box_keep q 1 (by simp)⟩
  have hpos := mayC_pos hm
  obtain ⟨b, off, rfl, hbl, hcel⟩ := h.rd.cel hpos
  have kc : ∀ W, Below W1.heap.size W1 W → ∀ (j : Nat) (_ : j < r.data.length), CelAt W b (off + j * 5) r.data[j] := fun W q j hj => (hcel j hj).keep fun o => ((hb1.trans (q.mono hb1.size)).cell (p := ⟨b, o, none⟩) (by have := h.le; show b < w.heap.size; omega))
  have c1 := of_ref (some ⟨b, off, none⟩) c 0 nm W1 (h.below hb1) hm hpos
  have c4 := fun (W : World) (q : Below W1.heap.size W1 W) (i : Nat) (hi : i < r.data.length) => cut_ref (some ⟨b, off, none⟩) c i W (h.below (hb1.trans (q.mono hb1.size))) hm hi hcap hcm
  have hv : valO r.data nm = match ofR r.data 0 nm with | none => none | some q => if kindAt r.data q = 0 then none else some (subL r.data q) := by
    rw [valO, memR_ofR hm]
    cases ofR r.data 0 nm <;> rfl
  have hlt : ∀ q, ofR r.data 0 nm = some q → q < r.data.length := fun q hq => (memR_lt ((memR_ofR hm nm).trans hq)).2.2.2.2
  have hln := h.len
  have HB := Lib.hid hb1
  have HK := Lib.hid kk
  have HC := Lib.hid kc
  have C4 := Lib.hid c4
  unfold RVal
  have hvl : valL r.data nm = (valO r.data nm).getD [] := rfl
  rw [hvl, hv]
  obtain ⟨o, ho⟩ : ∃ o, ofR r.data 0 nm = o := ⟨_, rfl⟩
  simp only [ho] at c1 hlt ⊢
  have HW1 := Lib.hid hW1
  obtain ⟨k0, k1⟩ := kk W1 (Below.refl _ _)
  clear h hm kk kc c4 hv hvl ho hW1 hcel hb1
  cases o with
  | none =>
    simp only [ans] at c1
    go_enter Tryz.func70, Tryz.ntmps70
    go_wp2_with fail
    rw [← HW1.out]
    refine c1.mono ?_
    rintro e w1 ⟨rfl, q1⟩
    go_wp2
    go_ret2
    exact ⟨none, 0, rfl, .inl rfl, HB.out.trans (q1.mono HB.out.size)⟩
  | some q =>
    have hq := hlt q rfl
    have hqI : (q : Int) < r.data.length := by omega
    simp only [ans] at c1
    obtain ⟨kq, hkq⟩ : ∃ kq, kindAt r.data q = kq := ⟨_, rfl⟩
    have hcq : ∀ W, Below W1.heap.size W1 W → W.cell? ⟨b, off + q * 5, none⟩ = some (.int .u8 kq) := fun W qq => by
      have := HC.out W qq q hq
      rw [← hkq, kindAt, List.getElem?_eq_getElem hq]
      exact this.1
    have HCQ := Lib.hid hcq
    simp only [hkq]
    clear hcq hkq hlt
    by_cases h0 : kq = 0
    · subst h0
      simp only [if_true]
      go_enter Tryz.func70, Tryz.ntmps70
      go_wp2_with fail
      rw [← HW1.out]
      refine c1.mono ?_
      rintro e w1 ⟨rfl, q1⟩
      clear c1 k0 k1
      obtain ⟨k0, k1⟩ := HK.out w1 q1
      have g := HCQ.out w1 q1
      go_wp2
      go_ret2
      exact ⟨none, 0, rfl, .inl rfl, HB.out.trans (q1.mono HB.out.size)⟩
    · have h0e : ((kq : Int) == 0) = false := beq_eq_false_iff_ne.2 (by omega)
      rw [if_neg h0]
      simp only [Option.getD_some, Option.isSome_some]
      have c4 := fun (W : World) (qq : Below W1.heap.size W1 W) => (C4.out W qq q hq).mono (R' := fun e w' => ∃ A c, e = .returned (.slice A (subL r.data q).length c) ∧ w'.ownsRow W.heap.size 47 5 (.slice A (subL r.data q).length c) (subL r.data q).length (cv (subL r.data q)) ∧ Below W.heap.size W w') fun e w' hh => by
        obtain ⟨v, e1, o, bb⟩ := hh
        obtain ⟨A', c', rfl, _, _⟩ := own_slice o
        exact ⟨A', c', e1, o, bb⟩
      have C4' := Lib.hid c4
      obtain ⟨S, hS⟩ : ∃ S, subL r.data q = S := ⟨_, rfl⟩
      rw [hS] at C4' ⊢
      clear h0 c4 hS
      go_enter Tryz.func70, Tryz.ntmps70
      go_wp2_with fail
      rw [← HW1.out]
      refine c1.mono ?_
      rintro e w1 ⟨rfl, q1⟩
      clear c1 k0 k1
      obtain ⟨k0, k1⟩ := HK.out w1 q1
      have g := HCQ.out w1 q1
      have c := C4'.out w1 q1
      go_wp2_with fail
      refine c.mono ?_
      rintro e w2 ⟨A2, c2, rfl, o2, q2⟩
      go_wp2
      go_ret2
      exact ⟨A2, c2, rfl, rd_ofK2 o2, HB.out.trans ((q1.trans (q2.mono q1.size)).mono HB.out.size)⟩
end
section
open Go.RowKit
/-- a record as the reference reads it -/
structure RRec (w : World) (B : Nat) (r : RecC) (A : Option Addr) (c : Nat) : Prop where
  inn : InR r.data A w B
  cap : r.data.length ≤ c
  cm : c ≤ maxLen
theorem RRec.below {w w' : World} {B : Nat} {r : RecC} {A : Option Addr} {c : Nat} (h : RRec w B r A c) (q : Below w.heap.size w w') : RRec w' B r A c := ⟨h.inn.below q, h.cap, h.cm⟩
def Pair2 (W : World) (b : Nat) (v0 v1 : Value) : Prop := W.cell? ⟨b, 0, none⟩ = some v0 ∧ W.cell? ⟨b, 1, none⟩ = some v1
theorem Pair2.below {W W' : World} {b : Nat} {v0 v1 : Value} (h : Pair2 W b v0 v1) {B : Nat} (hb : Below B W W') (hB : b < B) : Pair2 W' b v0 v1 :=
  ⟨(hb.cell (p := ⟨b, 0, none⟩) hB).trans h.1, (hb.cell (p := ⟨b, 1, none⟩) hB).trans h.2⟩
theorem Pair2.new (w : World) (v0 v1 : Value) (T : TypeId) : Pair2 (w.alloc (.cells #[v0, v1] T)) w.heap.size v0 v1 :=
  ⟨box_keep (Below.refl _ _) 0 (by simp), box_keep (Below.refl _ _) 1 (by simp)⟩
abbrev tabV (t : TabC) (Au : Option Addr) (cu : Nat) (Ar : Option Addr) (cr : Nat) : Array Value := #[.string t.name, .int .i64 t.most, .slice Au t.us.length cu, .slice Ar t.rows.length cr]
abbrev recV (r : RecC) (A : Option Addr) (c : Nat) : Array Value := #[.string r.id, .slice A r.data.length c]
theorem by1_some (a b : RecC) (u : ByteArray) : Tb.by1 ordC a b u = ((valO a.data u).isSome && ((valO b.data u).isSome && sameC (valL a.data u) (valL b.data u))) := by
  unfold Tb.by1
  simp only [ordC]
  unfold valL
  cases valO a.data u with
  | none => rfl
  | some x =>
    cases valO b.data u with
    | none => rfl
    | some y => rfl
theorem any_dropB {α : Type} {p : α → Bool} {l : List α} {k : Nat} (h : k < l.length) : (l.drop k).any p = (p l[k] || (l.drop (k + 1)).any p) := by
  rw [List.drop_eq_getElem_cons h, List.any_cons]
set_option maxRecDepth 100000 in
set_option maxHeartbeats 8000000 in
theorem rclash_any (us : List ByteArray) (a b : RecC) (Au : Option Addr) (cu : Nat) (A : Option Addr) (c : Nat) (A' : Option Addr) (c' : Nat) (w : World) {B B1 B2 : Nat} (hu : Rd w B Au (sv us)) (hB : B ≤ w.heap.size) (hun : us.length ≤ 1000)
    (ha : RRec w B1 a A c) (hma : mayC a.data = true) (hb : RRec w B2 b A' c') (hmb : mayC b.data = true) :
    Calls Tryz.prog 53 #[.slice Au us.length cu, .agg #[.string a.id, .slice A a.data.length c], .agg #[.string b.id, .slice A' b.data.length c']] w fun e w' => e = .returned (.bool (Tb.clash ordC us a b)) ∧ Below w.heap.size w w' := by
  obtain ⟨W1, hW1⟩ : ∃ W1, W1 = (w.alloc (.cells #[.string a.id, .slice A a.data.length c] 28)).alloc (.cells #[.string b.id, .slice A' b.data.length c'] 28) := ⟨_, rfl⟩
  have hw1 : Below w.heap.size w W1 := by rw [hW1]; exact ((Below.refl _ _).alloc (Nat.le_refl _) _).alloc (by simp) _
  have hz : W1.heap.size = w.heap.size + 1 + 1 := by rw [hW1]; simp
  have ka : ∀ W, Below W1.heap.size W1 W → W.cell? ⟨w.heap.size, 0, none⟩ = some (.string a.id) ∧ W.cell? ⟨w.heap.size, 1, none⟩ = some (.slice A a.data.length c) := fun W q => by
    have f := (Pair2.new w (.string a.id) (.slice A a.data.length c) 28).below ((Below.refl _ _).alloc (Nat.le_refl _) (.cells #[.string b.id, .slice A' b.data.length c'] 28)) (by simp)
    rw [← hW1] at f
    have := f.below q (by omega)
    exact ⟨this.1, this.2⟩
  have kb : ∀ W, Below W1.heap.size W1 W → W.cell? ⟨w.heap.size + 1, 0, none⟩ = some (.string b.id) ∧ W.cell? ⟨w.heap.size + 1, 1, none⟩ = some (.slice A' b.data.length c') := fun W q => by
    have g := Pair2.new (w.alloc (.cells #[.string a.id, .slice A a.data.length c] 28)) (.string b.id) (.slice A' b.data.length c') 28
    rw [← hW1] at g
    have := g.below q (by simp; omega)
    simpa using And.intro this.1 this.2
  have dW : ∀ W, Below W1.heap.size W1 W → Below w.heap.size w W := fun W q => hw1.trans (q.mono hw1.size)
  have cva := fun (u : ByteArray) (W : World) (q : Below W1.heap.size W1 W) => rvalue_any a u A c W (ha.inn.below (dW W q)) hma ha.cap ha.cm
  have cvb := fun (u : ByteArray) (W : World) (q : Below W1.heap.size W1 W) => rvalue_any b u A' c' W (hb.inn.below (dW W q)) hmb hb.cap hb.cm
  have hla : ∀ u, (valL a.data u).length ≤ 1000000 := fun u => valL_len ha.inn.len
  have hcu : ∀ (k : Nat) (hk : k < us.length), ∃ bu off, Au = some ⟨bu, off, none⟩ ∧ bu < w.heap.size ∧ ∀ W, Below W1.heap.size W1 W → W.cell? ⟨bu, off + k, none⟩ = some (.string us[k]) := fun k hk => by
    obtain ⟨bu, off, e, hbu, hc⟩ := hu.str hk
    refine ⟨bu, off, e, by omega, fun W q => ((dW W q).cell (p := ⟨bu, off + k, none⟩) (by show bu < w.heap.size; omega)).trans (hc k hk)⟩
  unfold Tb.clash
  obtain ⟨V, hV⟩ : ∃ V, us.any (Tb.by1 ordC a b) = V := ⟨_, rfl⟩
  rw [hV]
  have HV := Lib.hid hV
  have KA := Lib.hid ka
  have KB := Lib.hid kb
  have DW := Lib.hid dW
  have CVA := Lib.hid cva
  have CVB := Lib.hid cvb
  have HLA := Lib.hid hla
  have HCU := Lib.hid hcu
  have HW1 := Lib.hid hW1
  have hws := hw1.size
  clear hu hB ha hma hb hmb hw1 hz ka kb dW cva cvb hla hcu hV hW1
  go_enter Tryz.func53, Tryz.ntmps53
  go_wp2
  rw [← HW1.out]
  go_loopw [7] (fun i wr => ∃ k : Nat, k ≤ us.length ∧ i = .int .i64 k ∧ (us.drop k).any (Tb.by1 ordC a b) = V ∧ Below W1.heap.size W1 wr) (fun i _ => us.length - (intOf i).toNat)
  case atStart => exact ⟨0, Nat.zero_le _, rfl, by rw [List.drop_zero, HV.out], Below.refl _ _⟩
  case round =>
    obtain ⟨k, hk, rfl, hd, hbr⟩ := hrel
    by_cases hlt : k < us.length
    · rw [any_dropB hlt, by1_some] at hd
      have hlI : (k : Int) < us.length := by omega
      obtain ⟨bu, off, rfl, hbu, hcc⟩ := HCU.out k hlt
      obtain ⟨u, hu⟩ : ∃ u, us[k] = u := ⟨_, rfl⟩
      rw [hu] at hd hcc
      have cva := CVA.out u
      have cvb := CVB.out u
      have hxl := HLA.out u
      unfold RVal at cva cvb
      obtain ⟨X, hX⟩ : ∃ X, valL a.data u = X := ⟨_, rfl⟩
      obtain ⟨Y, hY⟩ : ∃ Y, valL b.data u = Y := ⟨_, rfl⟩
      obtain ⟨x, hx⟩ : ∃ x, (valO a.data u).isSome = x := ⟨_, rfl⟩
      obtain ⟨y, hy⟩ : ∃ y, (valO b.data u).isSome = y := ⟨_, rfl⟩
      rw [hX, hY, hx, hy] at hd
      simp only [hX, hx] at cva
      simp only [hY, hy] at cvb
      rw [hX] at hxl
      have HD := Lib.hid hd
      have CA := Lib.hid cva
      have CB := Lib.hid cvb
      have HC := Lib.hid hcc
      have g := hcc wr hbr
      obtain ⟨k0, k1⟩ := KA.out wr hbr
      clear hd hu hX hY hx hy cva cvb hcc
      go_wp2
      go_region_held3 (fun W => W.cell? ⟨w.heap.size, 0, none⟩ = some (.string a.id) ∧ W.cell? ⟨w.heap.size, 1, none⟩ = some (.slice A a.data.length c) ∧ W.cell? ⟨bu, off + k, none⟩ = some (.string u))
        (exact ⟨(KA.out _ (by repeat (first | assumption | exact Below.refl _ _ | refine Below.drew ?_ | refine Below.alloc ?_ (by first | assumption | exact Nat.le_refl _ | omega | (simp; done) | (simp; omega)) _ | refine Below.setCell ?_ (by first | assumption | exact Nat.le_refl _ | omega | (simp; done) | (simp; omega)) _))).1, (KA.out _ (by repeat (first | assumption | exact Below.refl _ _ | refine Below.drew ?_ | refine Below.alloc ?_ (by first | assumption | exact Nat.le_refl _ | omega | (simp; done) | (simp; omega)) _ | refine Below.setCell ?_ (by first | assumption | exact Nat.le_refl _ | omega | (simp; done) | (simp; omega)) _))).2, HC.out _ (by repeat (first | assumption | exact Below.refl _ _ | refine Below.drew ?_ | refine Below.alloc ?_ (by first | assumption | exact Nat.le_refl _ | omega | (simp; done) | (simp; omega)) _ | refine Below.setCell ?_ (by first | assumption | exact Nat.le_refl _ | omega | (simp; done) | (simp; omega)) _))⟩)
        ((go_at_call 70; (with_reducible refine (CA.out _ ?_).mono ?_); exact (by repeat (first | assumption | exact Below.refl _ _ | refine Below.drew ?_ | refine Below.alloc ?_ (by first | assumption | exact Nat.le_refl _ | omega | (simp; done) | (simp; omega)) _ | refine Below.setCell ?_ (by first | assumption | exact Nat.le_refl _ | omega | (simp; done) | (simp; omega)) _)); rintro e w5 ⟨A5, c5, rfl, rd5, hb5⟩; have hq5 : Below W1.heap.size W1 w5 := Below.trans (by repeat (first | assumption | exact Below.refl _ _ | refine Below.drew ?_ | refine Below.alloc ?_ (by first | assumption | exact Nat.le_refl _ | omega | (simp; done) | (simp; omega)) _ | refine Below.setCell ?_ (by first | assumption | exact Nat.le_refl _ | omega | (simp; done) | (simp; omega)) _)) (hb5.mono (by have := hbr.size; simp; omega))))
      have g := HC.out w5 hq5
      obtain ⟨k0, k1⟩ := KB.out w5 hq5
      go_wp2
      go_region_held3 (fun W => W.cell? ⟨w.heap.size + 1, 0, none⟩ = some (.string b.id) ∧ W.cell? ⟨w.heap.size + 1, 1, none⟩ = some (.slice A' b.data.length c') ∧ W.cell? ⟨bu, off + k, none⟩ = some (.string u))
        (exact ⟨(KB.out _ (by repeat (first | assumption | exact Below.refl _ _ | refine Below.drew ?_ | refine Below.alloc ?_ (by first | assumption | exact Nat.le_refl _ | omega | (simp; done) | (simp; omega)) _ | refine Below.setCell ?_ (by first | assumption | exact Nat.le_refl _ | omega | (simp; done) | (simp; omega)) _))).1, (KB.out _ (by repeat (first | assumption | exact Below.refl _ _ | refine Below.drew ?_ | refine Below.alloc ?_ (by first | assumption | exact Nat.le_refl _ | omega | (simp; done) | (simp; omega)) _ | refine Below.setCell ?_ (by first | assumption | exact Nat.le_refl _ | omega | (simp; done) | (simp; omega)) _))).2, HC.out _ (by repeat (first | assumption | exact Below.refl _ _ | refine Below.drew ?_ | refine Below.alloc ?_ (by first | assumption | exact Nat.le_refl _ | omega | (simp; done) | (simp; omega)) _ | refine Below.setCell ?_ (by first | assumption | exact Nat.le_refl _ | omega | (simp; done) | (simp; omega)) _))⟩)
        ((go_at_call 70; (with_reducible refine (CB.out _ ?_).mono ?_); exact (by repeat (first | assumption | exact Below.refl _ _ | refine Below.drew ?_ | refine Below.alloc ?_ (by first | assumption | exact Nat.le_refl _ | omega | (simp; done) | (simp; omega)) _ | refine Below.setCell ?_ (by first | assumption | exact Nat.le_refl _ | omega | (simp; done) | (simp; omega)) _)); rintro e w6 ⟨A6, c6, rfl, rd6, hb6⟩; have hq6 : Below w5.heap.size w5 w6 := Below.trans (by repeat (first | assumption | exact Below.refl _ _ | refine Below.drew ?_ | refine Below.alloc ?_ (by first | assumption | exact Nat.le_refl _ | omega | (simp; done) | (simp; omega)) _ | refine Below.setCell ?_ (by first | assumption | exact Nat.le_refl _ | omega | (simp; done) | (simp; omega)) _)) (hb6.mono (by simp)); have hq6' : Below W1.heap.size W1 w6 := Below.trans hq5 (hq6.mono hq5.size)))
      cases x with
      | false =>
        have hd := HD.out
        rw [Bool.false_and, Bool.false_or] at hd
        go_wp2
        go_roundw
        case rel => exact ⟨k + 1, hlt, by go_num, hd, hq6'⟩
        case measure => simp [intOf]; omega
      | true =>
        cases y with
        | false =>
          have hd := HD.out
          rw [Bool.true_and, Bool.false_and, Bool.false_or] at hd
          go_wp2
          go_roundw
          case rel => exact ⟨k + 1, hlt, by go_num, hd, hq6'⟩
          case measure => simp [intOf]; omega
        | true =>
          have hd := HD.out
          rw [Bool.true_and, Bool.true_and] at hd
          have cs := same_ref A5 A6 c5 c6 w6 (rd5.thru hq6 (Nat.le_refl _)) rd6 hq6.size (Nat.le_refl _) (by omega)
          obtain ⟨R, hR⟩ : ∃ R, sameC X Y = R := ⟨_, rfl⟩
          rw [hR] at cs hd
          have HD2 := Lib.hid hd
          clear hR hd rd5 rd6
          go_wp2_with fail
          refine cs.mono ?_
          rintro e w7 ⟨rfl, hb7⟩
          have hq7 : Below W1.heap.size W1 w7 := hq6'.trans (hb7.mono hq6'.size)
          cases R with
          | true =>
            obtain rfl : V = true := by have := HD2.out; rw [Bool.true_or] at this; exact this.symm
            go_wp2
            go_ret
            exact ⟨rfl, DW.out _ hq7⟩
          | false =>
            go_wp2
            go_roundw
            case rel => exact ⟨k + 1, hlt, by go_num, by have := HD2.out; rwa [Bool.false_or] at this, hq7⟩
            case measure => simp [intOf]; omega
    · obtain rfl : k = us.length := by omega
      rw [List.drop_of_length_le (Nat.le_refl _)] at hd
      obtain rfl : V = false := hd.symm
      clear hd
      go_wp2
      go_ret
      exact ⟨rfl, DW.out _ hbr⟩
end
end Go.Proofs.YtcgioepbooafcaaGreatDoor
