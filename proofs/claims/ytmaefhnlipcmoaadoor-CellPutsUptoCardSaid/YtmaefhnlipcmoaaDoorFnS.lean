/- Whether two are the same (program's, reference's); the reference's Great and Twin. Conditions: lengths within the model's. -/
import Derived.Test.YtmaefhnlipcmoaaDoorAppK
import Derived.Test.YtmaefhnlipcmoaaDoorRefBf
import Derived.Laws.StructEq
import Derived.Shelf.SlicesE.Kit
import Derived.Deep.QuietTactic
import Derived.BigQuiet
namespace Go.Proofs.YtmaefhnlipcmoaaDoor
open Go.RowKit
theorem Cel.ext' {c d : Cel} (h1 : c.kind = d.kind) (h2 : c.name = d.name) (h3 : c.text = d.text) (h4 : c.num = d.num) (h5 : c.many = d.many) : c = d := by
  obtain ⟨a1, a2, a3, a4, a5⟩ := c
  obtain ⟨b1, b2, b3, b4, b5⟩ := d
  simp only at h1 h2 h3 h4 h5
  subst h1 h2 h3 h4 h5
  rfl
def eqC (c d : Cel) : Bool := (c.kind : Int) == (d.kind : Int) && (c.name.toList == d.name.toList && (c.text.toList == d.text.toList && (c.num == d.num && c.many == d.many)))
theorem eqC_iff (c d : Cel) : eqC c d = true ↔ c = d := by
  unfold eqC
  simp only [ba_beq, Bool.and_eq_true, beq_iff_eq, decide_eq_true_eq]
  constructor
  · rintro ⟨h1, h2, h3, h4, h5⟩
    exact Cel.ext' (by omega) h2 h3 h4 h5
  · rintro rfl
    exact ⟨rfl, rfl, rfl, rfl, rfl⟩
theorem neq_cell (c d : Cel) (w : World) : (binOp .neq 45 (.agg #[.int .u8 c.kind, .string c.name, .string c.text, .int .i64 c.num, .int .i64 c.many]) (.agg #[.int .u8 d.kind, .string d.name, .string d.text, .int .i64 d.num, .int .i64 d.many])).run Tryd.prog w = .ok (.bool (!eqC c d)) w := by
  have hS : Tryd.prog.underlying 45 = some (.struct (Tryd.prog.fieldsOf 45)) := by kernel_rfl
  have hp : Tryd.prog.stoodInHeld 45 = false := by kernel_rfl
  rw [run_neq_struct, show (10000 : Nat) = 9999 + 1 from rfl, run_equalIn_agg w 9999 45 _ _ hS hp]
  simp only [Program.fieldsOf, Tryd.underlying45]
  go_simp
  unfold eqC
  by_cases h1 : (c.kind : Int) = d.kind <;> by_cases h2 : c.name.toList = d.name.toList <;> by_cases h3 : c.text.toList = d.text.toList <;> by_cases h4 : c.num = d.num <;> by_cases h5 : c.many = d.many <;> simp [h1, h2, h3, h4, h5]
theorem guard_cell (op : BinOp) (a b : Operand) (c d : Cel) (w : World) : Sem.run Tryd.prog (eqGuard op 45 a b (.agg #[.int .u8 c.kind, .string c.name, .string c.text, .int .i64 c.num, .int .i64 c.many]) (.agg #[.int .u8 d.kind, .string d.name, .string d.text, .int .i64 d.num, .int .i64 d.many])) w = .ok () w :=
  (Go.Proofs.GuardAt.agg (fun x : Cel => #[.int .u8 x.kind, .string x.name, .string x.text, .int .i64 x.num, .int .i64 x.many]) (by kernel_rfl)) op a b c d w
def sameC : List Cel → List Cel → Bool
  | [], [] => true
  | c :: r, d :: s => eqC c d && sameC r s
  | _, _ => false
theorem sameC_iff : ∀ xs ys, sameC xs ys = true ↔ xs = ys
  | [], [] => by simp [sameC]
  | c :: r, d :: s => by
    rw [sameC, Bool.and_eq_true, eqC_iff, sameC_iff r s]
    simp
  | [], d :: s => by simp [sameC]
  | c :: r, [] => by simp [sameC]
theorem sameC_len : ∀ xs ys, sameC xs ys = true → xs.length = ys.length := fun xs ys h => by rw [(sameC_iff xs ys).1 h]
theorem sameC_drop {xs ys : List Cel} {k : Nat} (h1 : k < xs.length) (h2 : k < ys.length) : sameC (xs.drop k) (ys.drop k) = (eqC xs[k] ys[k] && sameC (xs.drop (k + 1)) (ys.drop (k + 1))) := by
  rw [List.drop_eq_getElem_cons h1, List.drop_eq_getElem_cons h2, sameC]
set_option maxHeartbeats 2000000 in
theorem same_ref {xs ys : List Cel} (A A' : Option Addr) (c c' : Nat) (w : World) {B B' : Nat} (hx : Rd w B A (cv xs)) (hy : Rd w B' A' (cv ys)) (hB : B ≤ w.heap.size) (hB' : B' ≤ w.heap.size) (hn : xs.length ≤ 1000000000) :
    Calls Tryd.prog 14 #[.slice A xs.length c, .slice A' ys.length c'] w fun e w' => e = .returned (.bool (sameC xs ys)) ∧ Below w.heap.size w w' := by
  have hng := neq_cell
  have hgd := guard_cell
  by_cases hl : xs.length = ys.length
  · obtain ⟨V, hV⟩ : ∃ V, sameC xs ys = V := ⟨_, rfl⟩
    rw [hV]
    have HV := Lib.hid hV
    clear hV
    obtain ⟨n, hN⟩ : ∃ n, ys.length = n := ⟨_, rfl⟩
    rw [hN] at hl ⊢
    rw [hl] at hn ⊢
    have HL := Lib.hid hl
    have HN := Lib.hid hN
    clear hl hN
    go_enter Tryd.func14, Tryd.ntmps14
    go_wp2
    go_loopw [5] (fun i wr => ∃ k : Nat, k ≤ n ∧ i = .int .i64 k ∧ sameC (xs.drop k) (ys.drop k) = V ∧ Below w.heap.size w wr) (fun i _ => n - (intOf i).toNat)
    case atStart => exact ⟨0, Nat.zero_le _, rfl, by rw [List.drop_zero, List.drop_zero, HV.out], Below.refl _ _⟩
    case round =>
      obtain ⟨k, hk, rfl, hd, hb⟩ := hrel
      by_cases hlt : k < n
      · have hk1 : k < xs.length := by rw [HL.out]; exact hlt
        have hk2 : k < ys.length := by rw [HN.out]; exact hlt
        rw [sameC_drop hk1 hk2] at hd
        obtain ⟨b, off, rfl, hbl, c0, c1, c2, c3, c4⟩ := hx.cel1 (List.getElem?_eq_getElem hk1)
        obtain ⟨b2, off2, rfl, hbl2, d0, d1, d2, d3, d4⟩ := hy.cel1 (List.getElem?_eq_getElem hk2)
        have kx : ∀ o v, w.cell? ⟨b, o, none⟩ = some v → wr.cell? ⟨b, o, none⟩ = some v := fun o v g => (hb.cell (p := ⟨b, o, none⟩) (by show b < w.heap.size; omega)).trans g
        have ky : ∀ o v, w.cell? ⟨b2, o, none⟩ = some v → wr.cell? ⟨b2, o, none⟩ = some v := fun o v g => (hb.cell (p := ⟨b2, o, none⟩) (by show b2 < w.heap.size; omega)).trans g
        replace c0 := kx _ _ c0
        replace c1 := kx _ _ c1
        replace c2 := kx _ _ c2
        replace c3 := kx _ _ c3
        replace c4 := kx _ _ c4
        replace d0 := ky _ _ d0
        replace d1 := ky _ _ d1
        replace d2 := ky _ _ d2
        replace d3 := ky _ _ d3
        replace d4 := ky _ _ d4
        obtain ⟨x, hxk⟩ : ∃ x, xs[k] = x := ⟨_, rfl⟩
        obtain ⟨y, hyk⟩ : ∃ y, ys[k] = y := ⟨_, rfl⟩
        rw [hxk] at c0 c1 c2 c3 c4 hd
        rw [hyk] at d0 d1 d2 d3 d4 hd
        have hlI : (k : Int) < n := by omega
        have q1 := hng x y
        have q2 := fun op p q => hgd op p q x y
        have HX := Lib.hid hx
        have HY := Lib.hid hy
        clear hx hy hxk hyk kx ky hng hgd
        cases hq : eqC x y with
        | true =>
          rw [hq, Bool.true_and] at hd
          rw [hq] at q1
          have HD := Lib.hid hd
          clear hq hd
          go_wp2
          go_quiet (fail)
          go_wp2
          go_roundw
          case rel => exact ⟨k + 1, hlt, by go_num, HD.out, hb.drewN' _⟩
          case measure => simp [intOf]; omega
        | false =>
          rw [hq, Bool.false_and] at hd
          subst hd
          rw [hq] at q1
          clear hq HV
          go_wp2
          go_quiet (fail)
          go_wp2
          go_ret
          exact ⟨rfl, hb.drewN' _⟩
      · obtain rfl : k = n := by omega
        rw [List.drop_of_length_le (by rw [HL.out]; exact Nat.le_refl _), List.drop_of_length_le (by rw [HN.out]; exact Nat.le_refl _)] at hd
        have hv : V = true := by rw [← hd]; rfl
        subst hv
        clear hd HV
        go_wp2
        go_ret
        exact ⟨rfl, hb⟩
  · have hV : sameC xs ys = false := by
      cases h : sameC xs ys with
      | false => rfl
      | true => exact absurd (sameC_len _ _ h) hl
    have hlB : ((xs.length : Int) != ys.length) = true := bne_iff_ne.2 (by omega)
    rw [hV]
    go_enter Tryd.func14, Tryd.ntmps14
    go_wp2
    go_ret
    exact ⟨rfl, Below.refl _ _⟩
set_option maxHeartbeats 2000000 in
theorem equal_any {xs ys : List Cel} (A A' : Option Addr) (c c' : Nat) (w : World) {B B' : Nat} (hx : Rd w B A (cv xs)) (hy : Rd w B' A' (cv ys)) (hB : B ≤ w.heap.size) (hB' : B' ≤ w.heap.size) (hn : xs.length ≤ 1000000000) :
    Calls Tryd.prog 51 #[.slice A xs.length c, .slice A' ys.length c'] w fun e w' => e = .returned (.bool (sameC xs ys)) ∧ Below w.heap.size w w' := by
  have hng := neq_cell
  have hgd := guard_cell
  by_cases hl : xs.length = ys.length
  · obtain ⟨V, hV⟩ : ∃ V, sameC xs ys = V := ⟨_, rfl⟩
    rw [hV]
    have HV := Lib.hid hV
    clear hV
    obtain ⟨n, hN⟩ : ∃ n, ys.length = n := ⟨_, rfl⟩
    rw [hN] at hl ⊢
    rw [hl] at hn ⊢
    have HL := Lib.hid hl
    have HN := Lib.hid hN
    clear hl hN
    go_enter Tryd.func51, Tryd.ntmps51
    go_wp2
    go_loopw [13] (fun i wr => ∃ k : Nat, k ≤ n ∧ i = .int .i64 k ∧ sameC (xs.drop k) (ys.drop k) = V ∧ Below w.heap.size w wr) (fun i _ => n - (intOf i).toNat)
    case atStart => exact ⟨0, Nat.zero_le _, rfl, by rw [List.drop_zero, List.drop_zero, HV.out], Below.refl _ _⟩
    case round =>
      obtain ⟨k, hk, rfl, hd, hb⟩ := hrel
      by_cases hlt : k < n
      · have hk1 : k < xs.length := by rw [HL.out]; exact hlt
        have hk2 : k < ys.length := by rw [HN.out]; exact hlt
        rw [sameC_drop hk1 hk2] at hd
        obtain ⟨b, off, rfl, hbl, c0, c1, c2, c3, c4⟩ := hx.cel1 (List.getElem?_eq_getElem hk1)
        obtain ⟨b2, off2, rfl, hbl2, d0, d1, d2, d3, d4⟩ := hy.cel1 (List.getElem?_eq_getElem hk2)
        have kx : ∀ o v, w.cell? ⟨b, o, none⟩ = some v → wr.cell? ⟨b, o, none⟩ = some v := fun o v g => (hb.cell (p := ⟨b, o, none⟩) (by show b < w.heap.size; omega)).trans g
        have ky : ∀ o v, w.cell? ⟨b2, o, none⟩ = some v → wr.cell? ⟨b2, o, none⟩ = some v := fun o v g => (hb.cell (p := ⟨b2, o, none⟩) (by show b2 < w.heap.size; omega)).trans g
        replace c0 := kx _ _ c0
        replace c1 := kx _ _ c1
        replace c2 := kx _ _ c2
        replace c3 := kx _ _ c3
        replace c4 := kx _ _ c4
        replace d0 := ky _ _ d0
        replace d1 := ky _ _ d1
        replace d2 := ky _ _ d2
        replace d3 := ky _ _ d3
        replace d4 := ky _ _ d4
        obtain ⟨x, hxk⟩ : ∃ x, xs[k] = x := ⟨_, rfl⟩
        obtain ⟨y, hyk⟩ : ∃ y, ys[k] = y := ⟨_, rfl⟩
        rw [hxk] at c0 c1 c2 c3 c4 hd
        rw [hyk] at d0 d1 d2 d3 d4 hd
        have hlI : (k : Int) < n := by omega
        have q1 := hng x y
        have q2 := fun op p q => hgd op p q x y
        have HX := Lib.hid hx
        have HY := Lib.hid hy
        clear hx hy hxk hyk kx ky hng hgd
        cases hq : eqC x y with
        | true =>
          rw [hq, Bool.true_and] at hd
          rw [hq] at q1
          have HD := Lib.hid hd
          clear hq hd
          go_wp2
          go_quiet (fail)
          go_wp2
          go_roundw
          case rel => exact ⟨k + 1, hlt, by go_num, HD.out, hb.drewN' _⟩
          case measure => simp [intOf]; omega
        | false =>
          rw [hq, Bool.false_and] at hd
          subst hd
          rw [hq] at q1
          clear hq HV
          go_wp2
          go_quiet (fail)
          go_wp2
          go_ret
          exact ⟨rfl, hb.drewN' _⟩
      · obtain rfl : k = n := by omega
        rw [List.drop_of_length_le (by rw [HL.out]; exact Nat.le_refl _), List.drop_of_length_le (by rw [HN.out]; exact Nat.le_refl _)] at hd
        have hv : V = true := by rw [← hd]; rfl
        subst hv
        clear hd HV
        go_wp2
        go_ret
        exact ⟨rfl, hb⟩
  · have hV : sameC xs ys = false := by
      cases h : sameC xs ys with
      | false => rfl
      | true => exact absurd (sameC_len _ _ h) hl
    have hlB : ((xs.length : Int) != ys.length) = true := bne_iff_ne.2 (by omega)
    rw [hV]
    go_enter Tryd.func51, Tryd.ntmps51
    go_wp2
    go_ret
    exact ⟨rfl, Below.refl _ _⟩
theorem same_any {xs ys : List Cel} (A A' : Option Addr) (c c' : Nat) (w : World) {B B' : Nat} (hx : Rd w B A (cv xs)) (hy : Rd w B' A' (cv ys)) (hB : B ≤ w.heap.size) (hB' : B' ≤ w.heap.size) (hn : xs.length ≤ 1000000000) :
    Calls Tryd.prog 30 #[.slice A xs.length c, .slice A' ys.length c'] w fun e w' => e = .returned (.bool (sameC xs ys)) ∧ Below w.heap.size w w' := by
  have hc := equal_any A A' c c' w hx hy hB hB' hn
  go_enter Tryd.func30, Tryd.ntmps30
  go_wp2_with fail
  refine hc.mono ?_
  rintro e w1 ⟨rfl, hb⟩
  go_wp2
  go_ret
  exact ⟨rfl, hb⟩
end Go.Proofs.YtmaefhnlipcmoaaDoor
