/- Contracts of package kind: what a type is, bare, a list's item, which type fits which. Conditions: lengths within the model's. -/
import Derived.Test.YtgoecnhkmfnenaaRows
import Derived.Test.YtgoecnhkmfnenaaOwn
import Derived.WalkLawsBesides
import Derived.BigQuiet
import Derived.Deep.QuietTactic
import Derived.Deep.RegionHeld3
namespace Go.Proofs.Ytgoecnhkmfnenaa
open Go.RowKit

def bv (ws : List UInt8) : List Value := ws.map fun b => Value.int .u8 b.toNat
theorem bv_len (ws : List UInt8) : (bv ws).length = ws.length := by simp [bv]
theorem Rd.byte {w : World} {B : Nat} {A : Option Addr} {ws : List UInt8} (h : Rd w B A (bv ws)) {k : Nat} (hk : k < ws.length) :
    ∃ b off, A = some ⟨b, off, none⟩ ∧ b < B ∧ ∀ (j : Nat) (h : j < ws.length), w.cell? ⟨b, off + j, none⟩ = some (.int .u8 ws[j].toNat) := by
  obtain ⟨b, off, e, hb, hc⟩ := h.at' (k := k) (by rw [bv_len]; exact hk)
  refine ⟨b, off, e, hb, fun j hj => ?_⟩
  rw [hc j (by rw [bv_len]; exact hj)]
  simp [bv]
theorem Rd.tail {w : World} {B : Nat} {b off : Nat} {a : UInt8} {r : List UInt8} (h : Rd w B (some ⟨b, off, none⟩) (bv (a :: r))) : Rd w B (some ⟨b, off + 1, none⟩) (bv r) := by
  rcases h with h | ⟨b', off', e, hb, hc⟩
  · simp [bv] at h
  · cases e
    refine .inr ⟨b, off + 1, rfl, hb, fun j hj => ?_⟩
    have := hc (j + 1) (by simp [bv] at hj ⊢; omega)
    rw [show off + 1 + j = off + (j + 1) by omega, this]
    simp [bv]

/- which of its kinds an interface value is -/
@[go_sem] theorem as_non_non (v : Value) (w : World) : (Instr.typeAssert (.iface 58 v) 55 58 true).run Try.prog w = .ok (.tuple #[v, .bool true]) w := by kernel_rfl
@[go_sem] theorem as_non_list (v : Value) (w : World) : (Instr.typeAssert (.iface 60 v) 55 58 true).run Try.prog w = .ok (.tuple #[.agg #[.string ⟨#[]⟩, .slice none 0 0], .bool false]) w := by kernel_rfl
@[go_sem] theorem as_non_named (v : Value) (w : World) : (Instr.typeAssert (.iface 63 v) 55 58 true).run Try.prog w = .ok (.tuple #[.agg #[.string ⟨#[]⟩, .slice none 0 0], .bool false]) w := by kernel_rfl
@[go_sem] theorem as_non_other (v : Value) (w : World) : (Instr.typeAssert (.iface 85 v) 55 58 true).run Try.prog w = .ok (.tuple #[.agg #[.string ⟨#[]⟩, .slice none 0 0], .bool false]) w := by kernel_rfl
@[go_sem] theorem as_list_non (v : Value) (w : World) : (Instr.typeAssert (.iface 58 v) 55 60 true).run Try.prog w = .ok (.tuple #[.agg #[.string ⟨#[]⟩, .slice none 0 0], .bool false]) w := by kernel_rfl
@[go_sem] theorem as_list_list (v : Value) (w : World) : (Instr.typeAssert (.iface 60 v) 55 60 true).run Try.prog w = .ok (.tuple #[v, .bool true]) w := by kernel_rfl
@[go_sem] theorem as_list_named (v : Value) (w : World) : (Instr.typeAssert (.iface 63 v) 55 60 true).run Try.prog w = .ok (.tuple #[.agg #[.string ⟨#[]⟩, .slice none 0 0], .bool false]) w := by kernel_rfl
@[go_sem] theorem as_list_other (v : Value) (w : World) : (Instr.typeAssert (.iface 85 v) 55 60 true).run Try.prog w = .ok (.tuple #[.agg #[.string ⟨#[]⟩, .slice none 0 0], .bool false]) w := by kernel_rfl
@[go_sem] theorem as_named_non (v : Value) (w : World) : (Instr.typeAssert (.iface 58 v) 55 63 true).run Try.prog w = .ok (.tuple #[.agg #[.string ⟨#[]⟩], .bool false]) w := by kernel_rfl
@[go_sem] theorem as_named_list (v : Value) (w : World) : (Instr.typeAssert (.iface 60 v) 55 63 true).run Try.prog w = .ok (.tuple #[.agg #[.string ⟨#[]⟩], .bool false]) w := by kernel_rfl
@[go_sem] theorem as_named_named (v : Value) (w : World) : (Instr.typeAssert (.iface 63 v) 55 63 true).run Try.prog w = .ok (.tuple #[v, .bool true]) w := by kernel_rfl
@[go_sem] theorem as_named_other (v : Value) (w : World) : (Instr.typeAssert (.iface 85 v) 55 63 true).run Try.prog w = .ok (.tuple #[.agg #[.string ⟨#[]⟩], .bool false]) w := by kernel_rfl

/-- a type's value: its name, its wrappers -/
def rf (nm : ByteArray) (A : Option Addr) (n c : Nat) : Value := .agg #[.string nm, .slice A n c]

set_option maxHeartbeats 1000000 in
theorem kindOf_named (nm : ByteArray) (A : Option Addr) (c : Nat) (w : World) :
    Calls Try.prog 25 #[rf nm A 0 c] w fun e w' => e = .returned (.iface 63 (.agg #[.string nm])) ∧ Below w.heap.size w w' := by
  unfold rf
  go_enter Try.func25, Try.ntmps25
  go_wp2
  go_ret
  exact ⟨rfl, (Below.refl _ _).alloc (Nat.le_refl _) _⟩

/-- what 'kindOf' answers of a wrapped type: the type within, under the wrapper's own type -/
def KPost (T : TypeId) (nm : ByteArray) (r : List UInt8) (w : World) (B : Nat) (e : Ending) (w' : World) : Prop :=
  ∃ A' c', e = .returned (.iface T (rf nm A' r.length c')) ∧ r.length ≤ c' ∧ c' ≤ maxLen ∧ Rd w' B A' (bv r) ∧ Below w.heap.size w w'

set_option maxHeartbeats 1000000 in
theorem kindOf_non (nm : ByteArray) (A : Option Addr) (c : Nat) (r : List UInt8) (w : World) {B : Nat} (hx : Rd w B A (bv (1 :: r))) (hB : B ≤ w.heap.size) (hc : r.length + 1 ≤ c) (hm : c ≤ maxLen) :
    Calls Try.prog 25 #[rf nm A (r.length + 1) c] w (KPost 58 nm r w B) := by
  unfold rf
  unfold maxLen at hm
  obtain ⟨b, off, rfl, hb, hcell⟩ := hx.byte (k := 0) (by simp)
  have c1 := hcell 0 (by simp)
  simp at c1
  have c2 : ∀ o, (w.alloc o).cell? ⟨b, off, none⟩ = some (.int .u8 1) := fun o => by rw [World.cell?_alloc_past _ _ _ (show b < w.heap.size by omega)]; exact c1
  clear hcell c1
  have HX := Lib.hid hx
  clear hx
  by_cases hc1 : c = 1
  · subst hc1
    obtain rfl : r = [] := List.eq_nil_of_length_eq_zero (by omega)
    go_enter Try.func25, Try.ntmps25
    go_wp2
    go_quiet (fail)
    go_wp2
    go_ret
    exact ⟨_, _, rfl, Nat.le_refl _, by omega, Rd.nil, ((Below.refl _ _).alloc (Nat.le_refl _) _).drewN' _⟩
  · have hc2 : ¬ (c : Int) = 1 := by omega
    go_enter Try.func25, Try.ntmps25
    go_wp2
    go_quiet (fail)
    go_wp2
    go_ret
    exact ⟨_, _, rfl, by omega, by unfold maxLen; omega, (HX.out.tail).thru (((Below.refl _ _).alloc (Nat.le_refl _) _).drewN' _) hB, ((Below.refl _ _).alloc (Nat.le_refl _) _).drewN' _⟩

set_option maxHeartbeats 1000000 in
theorem kindOf_list (nm : ByteArray) (A : Option Addr) (c : Nat) (r : List UInt8) (w : World) {B : Nat} (hx : Rd w B A (bv (2 :: r))) (hB : B ≤ w.heap.size) (hc : r.length + 1 ≤ c) (hm : c ≤ maxLen) :
    Calls Try.prog 25 #[rf nm A (r.length + 1) c] w (KPost 60 nm r w B) := by
  unfold rf
  unfold maxLen at hm
  obtain ⟨b, off, rfl, hb, hcell⟩ := hx.byte (k := 0) (by simp)
  have c1 := hcell 0 (by simp)
  simp at c1
  have c2 : ∀ o, (w.alloc o).cell? ⟨b, off, none⟩ = some (.int .u8 2) := fun o => by rw [World.cell?_alloc_past _ _ _ (show b < w.heap.size by omega)]; exact c1
  clear hcell c1
  have HX := Lib.hid hx
  clear hx
  by_cases hc1 : c = 1
  · subst hc1
    obtain rfl : r = [] := List.eq_nil_of_length_eq_zero (by omega)
    go_enter Try.func25, Try.ntmps25
    go_wp2
    go_quiet (fail)
    go_wp2
    go_ret
    exact ⟨_, _, rfl, Nat.le_refl _, by omega, Rd.nil, ((Below.refl _ _).alloc (Nat.le_refl _) _).drewN' _⟩
  · have hc2 : ¬ (c : Int) = 1 := by omega
    go_enter Try.func25, Try.ntmps25
    go_wp2
    go_quiet (fail)
    go_wp2
    go_ret
    exact ⟨_, _, rfl, by omega, by unfold maxLen; omega, (HX.out.tail).thru (((Below.refl _ _).alloc (Nat.le_refl _) _).drewN' _) hB, ((Below.refl _ _).alloc (Nat.le_refl _) _).drewN' _⟩

set_option maxHeartbeats 1000000 in
theorem kindOf_other (nm : ByteArray) (A : Option Addr) (c : Nat) (a : UInt8) (r : List UInt8) (w : World) {B : Nat} (hx : Rd w B A (bv (a :: r))) (hB : B ≤ w.heap.size) (h1 : a ≠ 1) (h2 : a ≠ 2) :
    Calls Try.prog 25 #[rf nm A (r.length + 1) c] w fun e w' => e = .returned (.iface 85 (.agg #[])) ∧ Below w.heap.size w w' := by
  unfold rf
  obtain ⟨b, off, rfl, hb, hcell⟩ := hx.byte (k := 0) (by simp)
  have c1 := hcell 0 (by simp)
  simp at c1
  have c2 : ∀ o, (w.alloc o).cell? ⟨b, off, none⟩ = some (.int .u8 a.toNat) := fun o => by rw [World.cell?_alloc_past _ _ _ (show b < w.heap.size by omega)]; exact c1
  clear hcell c1 hx
  have n1 : ((a.toNat : Int) == 1) = false := by
    rw [beq_eq_false_iff_ne]; intro e; apply h1; apply UInt8.toNat_inj.1; show a.toNat = 1; omega
  have n2 : ((a.toNat : Int) == 2) = false := by
    rw [beq_eq_false_iff_ne]; intro e; apply h2; apply UInt8.toNat_inj.1; show a.toNat = 2; omega
  clear h1 h2
  go_enter Try.func25, Try.ntmps25
  go_wp2
  go_ret
  exact ⟨rfl, (Below.refl _ _).alloc (Nat.le_refl _) _⟩

/-- what 'kindOf' answers of a type of any wrappers -/
def KV (w' : World) (B : Nat) (nm : ByteArray) (v : Value) : List UInt8 → Prop
  | [] => v = .iface 63 (.agg #[.string nm])
  | a :: r => (a = 1 ∧ ∃ A' c', v = .iface 58 (rf nm A' r.length c') ∧ r.length ≤ c' ∧ c' ≤ maxLen ∧ Rd w' B A' (bv r)) ∨
      (a = 2 ∧ ∃ A' c', v = .iface 60 (rf nm A' r.length c') ∧ r.length ≤ c' ∧ c' ≤ maxLen ∧ Rd w' B A' (bv r)) ∨ (a ≠ 1 ∧ a ≠ 2 ∧ v = .iface 85 (.agg #[]))
def KAny (w : World) (B : Nat) (nm : ByteArray) (ws : List UInt8) (e : Ending) (w' : World) : Prop :=
  ∃ v, e = .returned v ∧ KV w' B nm v ws ∧ Below w.heap.size w w'
theorem kindOf_any (nm : ByteArray) (A : Option Addr) (c : Nat) (ws : List UInt8) (w : World) {B : Nat} (hx : Rd w B A (bv ws)) (hB : B ≤ w.heap.size) (hc : ws.length ≤ c) (hm : c ≤ maxLen) :
    Calls Try.prog 25 #[.agg #[.string nm, .slice A ws.length c]] w (KAny w B nm ws) := by
  show Calls Try.prog 25 #[rf nm A ws.length c] w (KAny w B nm ws)
  rcases ws with _ | ⟨a, r⟩
  · exact (kindOf_named nm A c w).mono fun e w' ⟨he, hb⟩ => ⟨_, he, rfl, hb⟩
  · by_cases h1 : a = 1
    · subst h1
      exact (kindOf_non nm A c r w hx hB hc hm).mono fun e w' ⟨A', c', he, h2, h3, h4, hb⟩ => ⟨_, he, .inl ⟨rfl, A', c', rfl, h2, h3, h4⟩, hb⟩
    · by_cases h2 : a = 2
      · subst h2
        exact (kindOf_list nm A c r w hx hB hc hm).mono fun e w' ⟨A', c', he, h2, h3, h4, hb⟩ => ⟨_, he, .inr (.inl ⟨rfl, A', c', rfl, h2, h3, h4⟩), hb⟩
      · exact (kindOf_other nm A c a r w hx hB h1 h2).mono fun e w' ⟨he, hb⟩ => ⟨_, he, .inr (.inr ⟨h1, h2, rfl⟩), hb⟩
end Go.Proofs.Ytgoecnhkmfnenaa
