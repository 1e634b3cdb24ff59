/- cell.behind's closure at a cell in which nothing stands, and where none may: what it answers, what it leaves. Conditions: lengths within the model's; Go's two tables of utf8. -/
import Derived.Test.YtcgioepbooafcaaGreatDoorMFn
namespace Go.Proofs.YtcgioepbooafcaaGreatDoor
open Go.RowKit
variable {w0 w w' : World} {A : Option Addr} {cap : Nat} {xs : List Cel} {bv ba bw be bE : Nat} {E : List Int}
set_option maxRecDepth 100000 in
set_option maxHeartbeats 2000000 in
theorem walk3_F {nm tx : ByteArray} {num many : Int} {a d : Nat} {B : Nat} (hS : St w0 w A cap xs bv ba bw be bE E) (hx : Rd w0 B A (cv xs)) (hB : B ≤ w0.heap.size) (_hn : xs.length ≤ 1000000) (h : xs[a]? = some ⟨3, nm, tx, num, many⟩) (hs : tx.size ≤ maxLen) (hT : Tabs w0) (hF : textOk tx = false) (hb0 : bh xs d a = none) :
    Calls Tryz.prog 82 #[.int .i64 a, .int .i64 d, .pointer (some ⟨bv, 0, none⟩), .pointer (some ⟨ba, 0, none⟩), .pointer (some ⟨bw, 0, none⟩), .pointer (some ⟨be, 0, none⟩)] w fun e w' => e = .returned (.int .i64 (-1)) ∧ w.grownBy w' (some bE) ∧ ∃ E', St w0 w' A cap xs bv ba bw be bE E' ∧ Ends xs d a E E' := by
  have HB := Lib.hid hb0
  clear hb0
  obtain ⟨b, off, rfl, hb, c0, c1, c2, c3, c4⟩ := hx.cel1 h
  have hl := (List.getElem?_eq_some_iff.1 h).1
  have hlI : (a : Int) < xs.length := by omega
  have ha0 : decide ((a : Int) < 0) = false := by simp
  have hbw : b < w0.heap.size := by omega
  have d0 := (hS.below.cell (p := ⟨b, off + a * 5, none⟩) hbw).trans c0
  have d1 := (hS.below.cell (p := ⟨b, off + a * 5 + 1, none⟩) hbw).trans c1
  have d2 := (hS.below.cell (p := ⟨b, off + a * 5 + 2, none⟩) hbw).trans c2
  have d3 := (hS.below.cell (p := ⟨b, off + a * 5 + 3, none⟩) hbw).trans c3
  have d4 := (hS.below.cell (p := ⟨b, off + a * 5 + 4, none⟩) hbw).trans c4
  clear c0 c1 c2 c3 c4
  obtain ⟨l1, l2, l3, l4, l5⟩ := hS.lt
  have hvc := hS.hv
  have k0 := hS.kind 9
  have k1 := hS.kind 10
  have k2 := hS.kind 11
  rw [show kindsA[9]? = some (.func (.func 94) #[] #[]) from rfl] at k0
  rw [show kindsA[10]? = some (.func (.func 91) #[] #[]) from rfl] at k1
  rw [show kindsA[11]? = some (.bool false) from rfl] at k2
  have hT2 := Two.new w 3 nm tx num many (.func (.func 94) #[] #[]) (.func (.func 91) #[] #[]) (.bool false)
  unfold two at hT2
  go_enter Tryz.func82, Tryz.ntmps82
  go_upto_region 7 with fail
  obtain ⟨W0, hW0⟩ : ∃ W0, ((w.alloc (.cells #[.int .u8 3, .string nm, .string tx, .int .i64 num, .int .i64 many] 47)).alloc (.cells #[.func (.func 94) #[] #[], .func (.func 91) #[] #[], .bool false] 107)) = W0 := ⟨_, rfl⟩
  rw [hW0] at hT2 ⊢
  clear hW0 k0 k1 k2 d0 d1 d2 d3 d4 hvc
  have HT := Lib.hid hT2
  obtain ⟨x0, xs0, z0, z1, z2, z3, z4, y0, y1, y2⟩ := hT2
  have cF := kinds3_any tx W0 hs (hT.below (hS.below.trans (x0.mono hS.below.size)))
  rw [hF] at cF
  go_wp2_with (first | (go_at_call 94; refine cF.mono ?_; rintro e w2 ⟨rfl, hb2⟩; obtain ⟨x1, xs1, zz0, zz1, zz2, zz3, zz4, yy0, yy1, yy2⟩ := HT.out.grow hb2; have hw2 : w.heap.size + 1 < w2.heap.size := xs1))
  go_ret
  exact ⟨rfl, of_below x1, E, hS.grow x1, ends_none HB.out⟩
set_option maxRecDepth 100000 in
set_option maxHeartbeats 2000000 in
theorem walk3_G {nm tx : ByteArray} {num many : Int} {a d : Nat} {B : Nat} (hS : St w0 w A cap xs bv ba bw be bE E) (hx : Rd w0 B A (cv xs)) (hB : B ≤ w0.heap.size) (_hn : xs.length ≤ 1000000) (h : xs[a]? = some ⟨3, nm, tx, num, many⟩) (hs : tx.size ≤ maxLen) (hT : Tabs w0) (hF : textOk tx = true) (hG : decide (num = 0) = false) (hb0 : bh xs d a = none) :
    Calls Tryz.prog 82 #[.int .i64 a, .int .i64 d, .pointer (some ⟨bv, 0, none⟩), .pointer (some ⟨ba, 0, none⟩), .pointer (some ⟨bw, 0, none⟩), .pointer (some ⟨be, 0, none⟩)] w fun e w' => e = .returned (.int .i64 (-1)) ∧ w.grownBy w' (some bE) ∧ ∃ E', St w0 w' A cap xs bv ba bw be bE E' ∧ Ends xs d a E E' := by
  have HB := Lib.hid hb0
  clear hb0
  obtain ⟨b, off, rfl, hb, c0, c1, c2, c3, c4⟩ := hx.cel1 h
  have hl := (List.getElem?_eq_some_iff.1 h).1
  have hlI : (a : Int) < xs.length := by omega
  have ha0 : decide ((a : Int) < 0) = false := by simp
  have hbw : b < w0.heap.size := by omega
  have d0 := (hS.below.cell (p := ⟨b, off + a * 5, none⟩) hbw).trans c0
  have d1 := (hS.below.cell (p := ⟨b, off + a * 5 + 1, none⟩) hbw).trans c1
  have d2 := (hS.below.cell (p := ⟨b, off + a * 5 + 2, none⟩) hbw).trans c2
  have d3 := (hS.below.cell (p := ⟨b, off + a * 5 + 3, none⟩) hbw).trans c3
  have d4 := (hS.below.cell (p := ⟨b, off + a * 5 + 4, none⟩) hbw).trans c4
  clear c0 c1 c2 c3 c4
  obtain ⟨l1, l2, l3, l4, l5⟩ := hS.lt
  have hvc := hS.hv
  have k0 := hS.kind 9
  have k1 := hS.kind 10
  have k2 := hS.kind 11
  rw [show kindsA[9]? = some (.func (.func 94) #[] #[]) from rfl] at k0
  rw [show kindsA[10]? = some (.func (.func 91) #[] #[]) from rfl] at k1
  rw [show kindsA[11]? = some (.bool false) from rfl] at k2
  have hT2 := Two.new w 3 nm tx num many (.func (.func 94) #[] #[]) (.func (.func 91) #[] #[]) (.bool false)
  unfold two at hT2
  go_enter Tryz.func82, Tryz.ntmps82
  go_upto_region 7 with fail
  obtain ⟨W0, hW0⟩ : ∃ W0, ((w.alloc (.cells #[.int .u8 3, .string nm, .string tx, .int .i64 num, .int .i64 many] 47)).alloc (.cells #[.func (.func 94) #[] #[], .func (.func 91) #[] #[], .bool false] 107)) = W0 := ⟨_, rfl⟩
  rw [hW0] at hT2 ⊢
  clear hW0 k0 k1 k2 d0 d1 d2 d3 d4 hvc
  have HT := Lib.hid hT2
  obtain ⟨x0, xs0, z0, z1, z2, z3, z4, y0, y1, y2⟩ := hT2
  have cF := kinds3_any tx W0 hs (hT.below (hS.below.trans (x0.mono hS.below.size)))
  rw [hF] at cF
  have cG := fun W => zero_any num W
  rw [hG] at cG
  go_wp2_with (first | (go_at_call 94; refine cF.mono ?_; rintro e w2 ⟨rfl, hb2⟩; obtain ⟨x1, xs1, zz0, zz1, zz2, zz3, zz4, yy0, yy1, yy2⟩ := HT.out.grow hb2; have hw2 : w.heap.size + 1 < w2.heap.size := xs1) | (go_at_call 91; refine (cG _).mono ?_; rintro e w3 ⟨rfl, rfl⟩))
  go_ret
  exact ⟨rfl, of_below x1, E, hS.grow x1, ends_none HB.out⟩
set_option maxRecDepth 100000 in
set_option maxHeartbeats 2000000 in
theorem walk3_L {nm tx : ByteArray} {num many : Int} {a d : Nat} {B : Nat} (hS : St w0 w A cap xs bv ba bw be bE E) (hx : Rd w0 B A (cv xs)) (hB : B ≤ w0.heap.size) (_hn : xs.length ≤ 1000000) (h : xs[a]? = some ⟨3, nm, tx, num, many⟩) (hs : tx.size ≤ maxLen) (hT : Tabs w0) (hF : textOk tx = true) (hG : decide (num = 0) = true) (hm : many < 0) (hb0 : bh xs d a = none) :
    Calls Tryz.prog 82 #[.int .i64 a, .int .i64 d, .pointer (some ⟨bv, 0, none⟩), .pointer (some ⟨ba, 0, none⟩), .pointer (some ⟨bw, 0, none⟩), .pointer (some ⟨be, 0, none⟩)] w fun e w' => e = .returned (.int .i64 (-1)) ∧ w.grownBy w' (some bE) ∧ ∃ E', St w0 w' A cap xs bv ba bw be bE E' ∧ Ends xs d a E E' := by
  have HB := Lib.hid hb0
  clear hb0
  obtain ⟨b, off, rfl, hb, c0, c1, c2, c3, c4⟩ := hx.cel1 h
  have hl := (List.getElem?_eq_some_iff.1 h).1
  have hlI : (a : Int) < xs.length := by omega
  have ha0 : decide ((a : Int) < 0) = false := by simp
  have hbw : b < w0.heap.size := by omega
  have d0 := (hS.below.cell (p := ⟨b, off + a * 5, none⟩) hbw).trans c0
  have d1 := (hS.below.cell (p := ⟨b, off + a * 5 + 1, none⟩) hbw).trans c1
  have d2 := (hS.below.cell (p := ⟨b, off + a * 5 + 2, none⟩) hbw).trans c2
  have d3 := (hS.below.cell (p := ⟨b, off + a * 5 + 3, none⟩) hbw).trans c3
  have d4 := (hS.below.cell (p := ⟨b, off + a * 5 + 4, none⟩) hbw).trans c4
  clear c0 c1 c2 c3 c4
  obtain ⟨l1, l2, l3, l4, l5⟩ := hS.lt
  have hvc := hS.hv
  have k0 := hS.kind 9
  have k1 := hS.kind 10
  have k2 := hS.kind 11
  rw [show kindsA[9]? = some (.func (.func 94) #[] #[]) from rfl] at k0
  rw [show kindsA[10]? = some (.func (.func 91) #[] #[]) from rfl] at k1
  rw [show kindsA[11]? = some (.bool false) from rfl] at k2
  have hT2 := Two.new w 3 nm tx num many (.func (.func 94) #[] #[]) (.func (.func 91) #[] #[]) (.bool false)
  unfold two at hT2
  go_enter Tryz.func82, Tryz.ntmps82
  go_upto_region 7 with fail
  obtain ⟨W0, hW0⟩ : ∃ W0, ((w.alloc (.cells #[.int .u8 3, .string nm, .string tx, .int .i64 num, .int .i64 many] 47)).alloc (.cells #[.func (.func 94) #[] #[], .func (.func 91) #[] #[], .bool false] 107)) = W0 := ⟨_, rfl⟩
  rw [hW0] at hT2 ⊢
  clear hW0 k0 k1 k2 d0 d1 d2 d3 d4 hvc
  have HT := Lib.hid hT2
  obtain ⟨x0, xs0, z0, z1, z2, z3, z4, y0, y1, y2⟩ := hT2
  have cF := kinds3_any tx W0 hs (hT.below (hS.below.trans (x0.mono hS.below.size)))
  rw [hF] at cF
  have cG := fun W => zero_any num W
  rw [hG] at cG
  go_wp2_with (first | (go_at_call 94; refine cF.mono ?_; rintro e w2 ⟨rfl, hb2⟩; obtain ⟨x1, xs1, zz0, zz1, zz2, zz3, zz4, yy0, yy1, yy2⟩ := HT.out.grow hb2; have hw2 : w.heap.size + 1 < w2.heap.size := xs1) | (go_at_call 91; refine (cG _).mono ?_; rintro e w3 ⟨rfl, rfl⟩))
  go_ret
  exact ⟨rfl, of_below x1, E, hS.grow x1, ends_none HB.out⟩
set_option maxRecDepth 100000 in
set_option maxHeartbeats 2000000 in
theorem walk3_M {nm tx : ByteArray} {num many : Int} {a d : Nat} {B : Nat} (hS : St w0 w A cap xs bv ba bw be bE E) (hx : Rd w0 B A (cv xs)) (hB : B ≤ w0.heap.size) (_hn : xs.length ≤ 1000000) (h : xs[a]? = some ⟨3, nm, tx, num, many⟩) (hs : tx.size ≤ maxLen) (hT : Tabs w0) (hF : textOk tx = true) (hG : decide (num = 0) = true) (hm : 0 < many) (hb0 : bh xs d a = none) :
    Calls Tryz.prog 82 #[.int .i64 a, .int .i64 d, .pointer (some ⟨bv, 0, none⟩), .pointer (some ⟨ba, 0, none⟩), .pointer (some ⟨bw, 0, none⟩), .pointer (some ⟨be, 0, none⟩)] w fun e w' => e = .returned (.int .i64 (-1)) ∧ w.grownBy w' (some bE) ∧ ∃ E', St w0 w' A cap xs bv ba bw be bE E' ∧ Ends xs d a E E' := by
  have HB := Lib.hid hb0
  clear hb0
  obtain ⟨b, off, rfl, hb, c0, c1, c2, c3, c4⟩ := hx.cel1 h
  have hl := (List.getElem?_eq_some_iff.1 h).1
  have hlI : (a : Int) < xs.length := by omega
  have ha0 : decide ((a : Int) < 0) = false := by simp
  have hbw : b < w0.heap.size := by omega
  have d0 := (hS.below.cell (p := ⟨b, off + a * 5, none⟩) hbw).trans c0
  have d1 := (hS.below.cell (p := ⟨b, off + a * 5 + 1, none⟩) hbw).trans c1
  have d2 := (hS.below.cell (p := ⟨b, off + a * 5 + 2, none⟩) hbw).trans c2
  have d3 := (hS.below.cell (p := ⟨b, off + a * 5 + 3, none⟩) hbw).trans c3
  have d4 := (hS.below.cell (p := ⟨b, off + a * 5 + 4, none⟩) hbw).trans c4
  clear c0 c1 c2 c3 c4
  obtain ⟨l1, l2, l3, l4, l5⟩ := hS.lt
  have hvc := hS.hv
  have k0 := hS.kind 9
  have k1 := hS.kind 10
  have k2 := hS.kind 11
  rw [show kindsA[9]? = some (.func (.func 94) #[] #[]) from rfl] at k0
  rw [show kindsA[10]? = some (.func (.func 91) #[] #[]) from rfl] at k1
  rw [show kindsA[11]? = some (.bool false) from rfl] at k2
  have hT2 := Two.new w 3 nm tx num many (.func (.func 94) #[] #[]) (.func (.func 91) #[] #[]) (.bool false)
  unfold two at hT2
  go_enter Tryz.func82, Tryz.ntmps82
  go_upto_region 7 with fail
  obtain ⟨W0, hW0⟩ : ∃ W0, ((w.alloc (.cells #[.int .u8 3, .string nm, .string tx, .int .i64 num, .int .i64 many] 47)).alloc (.cells #[.func (.func 94) #[] #[], .func (.func 91) #[] #[], .bool false] 107)) = W0 := ⟨_, rfl⟩
  rw [hW0] at hT2 ⊢
  clear hW0 k0 k1 k2 d0 d1 d2 d3 d4 hvc
  have HT := Lib.hid hT2
  obtain ⟨x0, xs0, z0, z1, z2, z3, z4, y0, y1, y2⟩ := hT2
  have cF := kinds3_any tx W0 hs (hT.below (hS.below.trans (x0.mono hS.below.size)))
  rw [hF] at cF
  have cG := fun W => zero_any num W
  rw [hG] at cG
  go_wp2_with (first | (go_at_call 94; refine cF.mono ?_; rintro e w2 ⟨rfl, hb2⟩; obtain ⟨x1, xs1, zz0, zz1, zz2, zz3, zz4, yy0, yy1, yy2⟩ := HT.out.grow hb2; have hw2 : w.heap.size + 1 < w2.heap.size := xs1) | (go_at_call 91; refine (cG _).mono ?_; rintro e w3 ⟨rfl, rfl⟩))
  go_ret
  exact ⟨rfl, of_below x1, E, hS.grow x1, ends_none HB.out⟩
set_option maxRecDepth 100000 in
set_option maxHeartbeats 2000000 in
theorem walk3_leaf {nm tx : ByteArray} {num many : Int} {a d : Nat} {B : Nat} (hS : St w0 w A cap xs bv ba bw be bE E) (hx : Rd w0 B A (cv xs)) (hB : B ≤ w0.heap.size) (hn : xs.length ≤ 1000000) (h : xs[a]? = some ⟨3, nm, tx, num, many⟩) (hd : d ≤ 16) (hs : tx.size ≤ maxLen) (hT : Tabs w0) (hF : textOk tx = true) (hG : decide (num = 0) = true) (hm : many = 0) (hb0 : bh xs d a = some (a + 1)) :
    Calls Tryz.prog 82 #[.int .i64 a, .int .i64 d, .pointer (some ⟨bv, 0, none⟩), .pointer (some ⟨ba, 0, none⟩), .pointer (some ⟨bw, 0, none⟩), .pointer (some ⟨be, 0, none⟩)] w fun e w' => e = .returned (.int .i64 ((a : Int) + 1)) ∧ w.grownBy w' (some bE) ∧ ∃ E', St w0 w' A cap xs bv ba bw be bE E' ∧ Ends xs d a E E' := by
  have HB := Lib.hid hb0
  clear hb0
  subst hm
  obtain ⟨b, off, rfl, hb, c0, c1, c2, c3, c4⟩ := hx.cel1 h
  have hl := (List.getElem?_eq_some_iff.1 h).1
  have hlI : (a : Int) < xs.length := by omega
  have ha0 : decide ((a : Int) < 0) = false := by simp
  have hbw : b < w0.heap.size := by omega
  have d0 := (hS.below.cell (p := ⟨b, off + a * 5, none⟩) hbw).trans c0
  have d1 := (hS.below.cell (p := ⟨b, off + a * 5 + 1, none⟩) hbw).trans c1
  have d2 := (hS.below.cell (p := ⟨b, off + a * 5 + 2, none⟩) hbw).trans c2
  have d3 := (hS.below.cell (p := ⟨b, off + a * 5 + 3, none⟩) hbw).trans c3
  have d4 := (hS.below.cell (p := ⟨b, off + a * 5 + 4, none⟩) hbw).trans c4
  clear c0 c1 c2 c3 c4
  obtain ⟨l1, l2, l3, l4, l5⟩ := hS.lt
  have hvc := hS.hv
  have k0 := hS.kind 9
  have k1 := hS.kind 10
  have k2 := hS.kind 11
  rw [show kindsA[9]? = some (.func (.func 94) #[] #[]) from rfl] at k0
  rw [show kindsA[10]? = some (.func (.func 91) #[] #[]) from rfl] at k1
  rw [show kindsA[11]? = some (.bool false) from rfl] at k2
  have hT2 := Two.new w 3 nm tx num 0 (.func (.func 94) #[] #[]) (.func (.func 91) #[] #[]) (.bool false)
  unfold two at hT2
  go_enter Tryz.func82, Tryz.ntmps82
  go_upto_region 7 with fail
  obtain ⟨W0, hW0⟩ : ∃ W0, ((w.alloc (.cells #[.int .u8 3, .string nm, .string tx, .int .i64 num, .int .i64 0] 47)).alloc (.cells #[.func (.func 94) #[] #[], .func (.func 91) #[] #[], .bool false] 107)) = W0 := ⟨_, rfl⟩
  rw [hW0] at hT2 ⊢
  clear hW0 k0 k1 k2 d0 d1 d2 d3 d4 hvc
  have HT := Lib.hid hT2
  obtain ⟨x0, xs0, z0, z1, z2, z3, z4, y0, y1, y2⟩ := hT2
  have cF := kinds3_any tx W0 hs (hT.below (hS.below.trans (x0.mono hS.below.size)))
  rw [hF] at cF
  have cG := fun W => zero_any num W
  rw [hG] at cG
  go_wp2_with (first | (go_at_call 94; refine cF.mono ?_; rintro e w2 ⟨rfl, hb2⟩; obtain ⟨x1, xs1, zz0, zz1, zz2, zz3, zz4, yy0, yy1, yy2⟩ := HT.out.grow hb2; have hw2 : w.heap.size + 1 < w2.heap.size := xs1) | (go_at_call 91; refine (cG _).mono ?_; rintro e w3 ⟨rfl, rfl⟩))
  go_loopw [12, 79] (fun n i wr => n = .int .i64 ((a : Int) + 1) ∧ i = .int .i64 0 ∧ wr = w3) (fun _ _ _ => 0)
  case atStart => exact ⟨rfl, rfl, rfl⟩
  case round =>
    obtain ⟨rfl, rfl, rfl⟩ := hrel
    have hSX := hS.grow x1
    have e0 := hSX.he
    have e1 := hSX.ends a hl
    have e2 := hSX.frozen a
    go_wp2
    go_ret
    exact ⟨rfl, grown_trans (of_below x1) (grown_set _ _ _ _), _, hSX.set a _ hl, ends_leaf hd (by rw [hS.len]; exact hl) HB.out⟩
end Go.Proofs.YtcgioepbooafcaaGreatDoor
