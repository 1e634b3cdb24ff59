/- cell.behind's closure at a cell in which nothing stands, and where none may: what it answers, what it leaves. Conditions: lengths within the model's; Go's two tables of utf8. -/
import Derived.Test.YtcgioepbooafcaaGreatDoorMFn
namespace Go.Proofs.YtcgioepbooafcaaGreatDoor
open Go.RowKit
variable {w0 w w' : World} {A : Option Addr} {cap : Nat} {xs : List Cel} {bv ba bw be bE : Nat} {E : List Int}
set_option maxRecDepth 100000 in
set_option maxHeartbeats 2000000 in
theorem walk7_F {nm tx : ByteArray} {num many : Int} {a d : Nat} {B : Nat} (hS : St w0 w A cap xs bv ba bw be bE E) (hx : Rd w0 B A (cv xs)) (hB : B ≤ w0.heap.size) (_hn : xs.length ≤ 1000000) (h : xs[a]? = some ⟨7, nm, tx, num, many⟩) (hF : decide (tx = e0) = false) (hb0 : bh xs d a = none) :
    Calls Tryz.prog 82 #[.int .i64 a, .int .i64 d, .pointer (some ⟨bv, 0, none⟩), .pointer (some ⟨ba, 0, none⟩), .pointer (some ⟨bw, 0, none⟩), .pointer (some ⟨be, 0, none⟩)] w fun e w' => e = .returned (.int .i64 (-1)) ∧ w.grownBy w' (some bE) ∧ ∃ E', St w0 w' A cap xs bv ba bw be bE E' ∧ Ends xs d a E E' := by
  have HB := Lib.hid hb0
  clear hb0
  obtain ⟨b, off, rfl, hb, c0, c1, c2, c3, c4⟩ := hx.cel1 h
  have hl := (List.getElem?_eq_some_iff.1 h).1
  have hlI : (a : Int) < xs.length := by omega
  have ha0 : decide ((a : Int) < 0) = false := by simp
  have hbw : b < w0.heap.size := by omega
  have d0 := (hS.below.cell (p := ⟨b, off + a * 5, none⟩) hbw).trans c0
  have d1 := (hS.below.cell (p := ⟨b, off + a * 5 + 1, none⟩) hbw).trans c1
  have d2 := (hS.below.cell (p := ⟨b, off + a * 5 + 2, none⟩) hbw).trans c2
  have d3 := (hS.below.cell (p := ⟨b, off + a * 5 + 3, none⟩) hbw).trans c3
  have d4 := (hS.below.cell (p := ⟨b, off + a * 5 + 4, none⟩) hbw).trans c4
  clear c0 c1 c2 c3 c4
  obtain ⟨l1, l2, l3, l4, l5⟩ := hS.lt
  have hvc := hS.hv
  have k0 := hS.kind 21
  have k1 := hS.kind 22
  have k2 := hS.kind 23
  rw [show kindsA[21]? = some (.func (.func 90) #[] #[]) from rfl] at k0
  rw [show kindsA[22]? = some (.func (.func 91) #[] #[]) from rfl] at k1
  rw [show kindsA[23]? = some (.bool true) from rfl] at k2
  have hT2 := Two.new w 7 nm tx num many (.func (.func 90) #[] #[]) (.func (.func 91) #[] #[]) (.bool true)
  unfold two at hT2
  go_enter Tryz.func82, Tryz.ntmps82
  go_upto_region 7 with fail
  obtain ⟨W0, hW0⟩ : ∃ W0, ((w.alloc (.cells #[.int .u8 7, .string nm, .string tx, .int .i64 num, .int .i64 many] 47)).alloc (.cells #[.func (.func 90) #[] #[], .func (.func 91) #[] #[], .bool true] 107)) = W0 := ⟨_, rfl⟩
  rw [hW0] at hT2 ⊢
  clear hW0 k0 k1 k2 d0 d1 d2 d3 d4 hvc
  have HT := Lib.hid hT2
  obtain ⟨x0, xs0, z0, z1, z2, z3, z4, y0, y1, y2⟩ := hT2
  have cF := fun W => none_any tx W
  rw [hF] at cF
  go_wp2_with (first | (go_at_call 90; refine (cF _).mono ?_; rintro e w2 ⟨rfl, rfl⟩))
  go_ret
  exact ⟨rfl, of_below x0, E, hS.grow x0, ends_none HB.out⟩
set_option maxRecDepth 100000 in
set_option maxHeartbeats 2000000 in
theorem walk7_G {nm tx : ByteArray} {num many : Int} {a d : Nat} {B : Nat} (hS : St w0 w A cap xs bv ba bw be bE E) (hx : Rd w0 B A (cv xs)) (hB : B ≤ w0.heap.size) (_hn : xs.length ≤ 1000000) (h : xs[a]? = some ⟨7, nm, tx, num, many⟩) (hF : decide (tx = e0) = true) (hG : decide (num = 0) = false) (hb0 : bh xs d a = none) :
    Calls Tryz.prog 82 #[.int .i64 a, .int .i64 d, .pointer (some ⟨bv, 0, none⟩), .pointer (some ⟨ba, 0, none⟩), .pointer (some ⟨bw, 0, none⟩), .pointer (some ⟨be, 0, none⟩)] w fun e w' => e = .returned (.int .i64 (-1)) ∧ w.grownBy w' (some bE) ∧ ∃ E', St w0 w' A cap xs bv ba bw be bE E' ∧ Ends xs d a E E' := by
  have HB := Lib.hid hb0
  clear hb0
  obtain ⟨b, off, rfl, hb, c0, c1, c2, c3, c4⟩ := hx.cel1 h
  have hl := (List.getElem?_eq_some_iff.1 h).1
  have hlI : (a : Int) < xs.length := by omega
  have ha0 : decide ((a : Int) < 0) = false := by simp
  have hbw : b < w0.heap.size := by omega
  have d0 := (hS.below.cell (p := ⟨b, off + a * 5, none⟩) hbw).trans c0
  have d1 := (hS.below.cell (p := ⟨b, off + a * 5 + 1, none⟩) hbw).trans c1
  have d2 := (hS.below.cell (p := ⟨b, off + a * 5 + 2, none⟩) hbw).trans c2
  have d3 := (hS.below.cell (p := ⟨b, off + a * 5 + 3, none⟩) hbw).trans c3
  have d4 := (hS.below.cell (p := ⟨b, off + a * 5 + 4, none⟩) hbw).trans c4
  clear c0 c1 c2 c3 c4
  obtain ⟨l1, l2, l3, l4, l5⟩ := hS.lt
  have hvc := hS.hv
  have k0 := hS.kind 21
  have k1 := hS.kind 22
  have k2 := hS.kind 23
  rw [show kindsA[21]? = some (.func (.func 90) #[] #[]) from rfl] at k0
  rw [show kindsA[22]? = some (.func (.func 91) #[] #[]) from rfl] at k1
  rw [show kindsA[23]? = some (.bool true) from rfl] at k2
  have hT2 := Two.new w 7 nm tx num many (.func (.func 90) #[] #[]) (.func (.func 91) #[] #[]) (.bool true)
  unfold two at hT2
  go_enter Tryz.func82, Tryz.ntmps82
  go_upto_region 7 with fail
  obtain ⟨W0, hW0⟩ : ∃ W0, ((w.alloc (.cells #[.int .u8 7, .string nm, .string tx, .int .i64 num, .int .i64 many] 47)).alloc (.cells #[.func (.func 90) #[] #[], .func (.func 91) #[] #[], .bool true] 107)) = W0 := ⟨_, rfl⟩
  rw [hW0] at hT2 ⊢
  clear hW0 k0 k1 k2 d0 d1 d2 d3 d4 hvc
  have HT := Lib.hid hT2
  obtain ⟨x0, xs0, z0, z1, z2, z3, z4, y0, y1, y2⟩ := hT2
  have cF := fun W => none_any tx W
  rw [hF] at cF
  have cG := fun W => zero_any num W
  rw [hG] at cG
  go_wp2_with (first | (go_at_call 90; refine (cF _).mono ?_; rintro e w2 ⟨rfl, rfl⟩) | (go_at_call 91; refine (cG _).mono ?_; rintro e w3 ⟨rfl, rfl⟩))
  go_ret
  exact ⟨rfl, of_below x0, E, hS.grow x0, ends_none HB.out⟩
set_option maxRecDepth 100000 in
set_option maxHeartbeats 2000000 in
theorem walk7_L {nm tx : ByteArray} {num many : Int} {a d : Nat} {B : Nat} (hS : St w0 w A cap xs bv ba bw be bE E) (hx : Rd w0 B A (cv xs)) (hB : B ≤ w0.heap.size) (_hn : xs.length ≤ 1000000) (h : xs[a]? = some ⟨7, nm, tx, num, many⟩) (hF : decide (tx = e0) = true) (hG : decide (num = 0) = true) (hm : many < 0) (hb0 : bh xs d a = none) :
    Calls Tryz.prog 82 #[.int .i64 a, .int .i64 d, .pointer (some ⟨bv, 0, none⟩), .pointer (some ⟨ba, 0, none⟩), .pointer (some ⟨bw, 0, none⟩), .pointer (some ⟨be, 0, none⟩)] w fun e w' => e = .returned (.int .i64 (-1)) ∧ w.grownBy w' (some bE) ∧ ∃ E', St w0 w' A cap xs bv ba bw be bE E' ∧ Ends xs d a E E' := by
  have HB := Lib.hid hb0
  clear hb0
  obtain ⟨b, off, rfl, hb, c0, c1, c2, c3, c4⟩ := hx.cel1 h
  have hl := (List.getElem?_eq_some_iff.1 h).1
  have hlI : (a : Int) < xs.length := by omega
  have ha0 : decide ((a : Int) < 0) = false := by simp
  have hbw : b < w0.heap.size := by omega
  have d0 := (hS.below.cell (p := ⟨b, off + a * 5, none⟩) hbw).trans c0
  have d1 := (hS.below.cell (p := ⟨b, off + a * 5 + 1, none⟩) hbw).trans c1
  have d2 := (hS.below.cell (p := ⟨b, off + a * 5 + 2, none⟩) hbw).trans c2
  have d3 := (hS.below.cell (p := ⟨b, off + a * 5 + 3, none⟩) hbw).trans c3
  have d4 := (hS.below.cell (p := ⟨b, off + a * 5 + 4, none⟩) hbw).trans c4
  clear c0 c1 c2 c3 c4
  obtain ⟨l1, l2, l3, l4, l5⟩ := hS.lt
  have hvc := hS.hv
  have k0 := hS.kind 21
  have k1 := hS.kind 22
  have k2 := hS.kind 23
  rw [show kindsA[21]? = some (.func (.func 90) #[] #[]) from rfl] at k0
  rw [show kindsA[22]? = some (.func (.func 91) #[] #[]) from rfl] at k1
  rw [show kindsA[23]? = some (.bool true) from rfl] at k2
  have hT2 := Two.new w 7 nm tx num many (.func (.func 90) #[] #[]) (.func (.func 91) #[] #[]) (.bool true)
  unfold two at hT2
  go_enter Tryz.func82, Tryz.ntmps82
  go_upto_region 7 with fail
  obtain ⟨W0, hW0⟩ : ∃ W0, ((w.alloc (.cells #[.int .u8 7, .string nm, .string tx, .int .i64 num, .int .i64 many] 47)).alloc (.cells #[.func (.func 90) #[] #[], .func (.func 91) #[] #[], .bool true] 107)) = W0 := ⟨_, rfl⟩
  rw [hW0] at hT2 ⊢
  clear hW0 k0 k1 k2 d0 d1 d2 d3 d4 hvc
  have HT := Lib.hid hT2
  obtain ⟨x0, xs0, z0, z1, z2, z3, z4, y0, y1, y2⟩ := hT2
  have cF := fun W => none_any tx W
  rw [hF] at cF
  have cG := fun W => zero_any num W
  rw [hG] at cG
  go_wp2_with (first | (go_at_call 90; refine (cF _).mono ?_; rintro e w2 ⟨rfl, rfl⟩) | (go_at_call 91; refine (cG _).mono ?_; rintro e w3 ⟨rfl, rfl⟩))
  go_ret
  exact ⟨rfl, of_below x0, E, hS.grow x0, ends_none HB.out⟩
set_option maxRecDepth 100000 in
set_option maxHeartbeats 2000000 in
theorem walk7_D {nm tx : ByteArray} {num many : Int} {a d : Nat} {B : Nat} (hS : St w0 w A cap xs bv ba bw be bE E) (hx : Rd w0 B A (cv xs)) (hB : B ≤ w0.heap.size) (_hn : xs.length ≤ 1000000) (h : xs[a]? = some ⟨7, nm, tx, num, many⟩) (hF : decide (tx = e0) = true) (hG : decide (num = 0) = true) (hm : 0 ≤ many) (hd : d = 0) (hb0 : bh xs d a = none) :
    Calls Tryz.prog 82 #[.int .i64 a, .int .i64 d, .pointer (some ⟨bv, 0, none⟩), .pointer (some ⟨ba, 0, none⟩), .pointer (some ⟨bw, 0, none⟩), .pointer (some ⟨be, 0, none⟩)] w fun e w' => e = .returned (.int .i64 (-1)) ∧ w.grownBy w' (some bE) ∧ ∃ E', St w0 w' A cap xs bv ba bw be bE E' ∧ Ends xs d a E E' := by
  have HB := Lib.hid hb0
  clear hb0
  subst hd
  obtain ⟨b, off, rfl, hb, c0, c1, c2, c3, c4⟩ := hx.cel1 h
  have hl := (List.getElem?_eq_some_iff.1 h).1
  have hlI : (a : Int) < xs.length := by omega
  have ha0 : decide ((a : Int) < 0) = false := by simp
  have hbw : b < w0.heap.size := by omega
  have d0 := (hS.below.cell (p := ⟨b, off + a * 5, none⟩) hbw).trans c0
  have d1 := (hS.below.cell (p := ⟨b, off + a * 5 + 1, none⟩) hbw).trans c1
  have d2 := (hS.below.cell (p := ⟨b, off + a * 5 + 2, none⟩) hbw).trans c2
  have d3 := (hS.below.cell (p := ⟨b, off + a * 5 + 3, none⟩) hbw).trans c3
  have d4 := (hS.below.cell (p := ⟨b, off + a * 5 + 4, none⟩) hbw).trans c4
  clear c0 c1 c2 c3 c4
  obtain ⟨l1, l2, l3, l4, l5⟩ := hS.lt
  have hvc := hS.hv
  have k0 := hS.kind 21
  have k1 := hS.kind 22
  have k2 := hS.kind 23
  rw [show kindsA[21]? = some (.func (.func 90) #[] #[]) from rfl] at k0
  rw [show kindsA[22]? = some (.func (.func 91) #[] #[]) from rfl] at k1
  rw [show kindsA[23]? = some (.bool true) from rfl] at k2
  have hT2 := Two.new w 7 nm tx num many (.func (.func 90) #[] #[]) (.func (.func 91) #[] #[]) (.bool true)
  unfold two at hT2
  go_enter Tryz.func82, Tryz.ntmps82
  go_upto_region 7 with fail
  obtain ⟨W0, hW0⟩ : ∃ W0, ((w.alloc (.cells #[.int .u8 7, .string nm, .string tx, .int .i64 num, .int .i64 many] 47)).alloc (.cells #[.func (.func 90) #[] #[], .func (.func 91) #[] #[], .bool true] 107)) = W0 := ⟨_, rfl⟩
  rw [hW0] at hT2 ⊢
  clear hW0 k0 k1 k2 d0 d1 d2 d3 d4 hvc
  have HT := Lib.hid hT2
  obtain ⟨x0, xs0, z0, z1, z2, z3, z4, y0, y1, y2⟩ := hT2
  have cF := fun W => none_any tx W
  rw [hF] at cF
  have cG := fun W => zero_any num W
  rw [hG] at cG
  go_wp2_with (first | (go_at_call 90; refine (cF _).mono ?_; rintro e w2 ⟨rfl, rfl⟩) | (go_at_call 91; refine (cG _).mono ?_; rintro e w3 ⟨rfl, rfl⟩))
  go_ret
  exact ⟨rfl, of_below x0, E, hS.grow x0, ends_none HB.out⟩
end Go.Proofs.YtcgioepbooafcaaGreatDoor
