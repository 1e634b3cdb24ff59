/- Both Items in one form. Conditions: lengths within the model's. -/
import Derived.Test.YtgoecnhkmfnenaaItem2
namespace Go.Proofs.Ytgoecnhkmfnenaa
open Go.RowKit
/-- what stands in a list's type: its name, its wrappers, and whether there is one -/
def itemS (nm : ByteArray) (ws : List UInt8) : ByteArray × List UInt8 × Bool :=
  match bare ws with
  | [] => (⟨#[]⟩, [], false)
  | a :: r => if a = 2 then (nm, r, true) else (⟨#[]⟩, [], false)
def ItemU (s : ByteArray × List UInt8 × Bool) (w : World) (e : Ending) (w' : World) : Prop :=
  ∃ A' c', e = .returned (.tuple #[.agg #[.string s.1, .slice A' s.2.1.length c'], .bool s.2.2]) ∧ OwnB w' w.heap.size (.slice A' s.2.1.length c') s.2.1 ∧ Below w.heap.size w w'
theorem item_fold {nm : ByteArray} {xs : List UInt8} {w w' : World} {e : Ending} (h : (∃ r, bare xs = 2 :: r ∧ ItemY nm r w e w') ∨ ((bare xs).head? ≠ some 2 ∧ ItemN w e w')) : ItemU (itemS nm xs) w e w' := by
  rcases h with ⟨r, hr, A', c', q1, q2, q3⟩ | ⟨hn, q1, q2⟩
  · have hs : itemS nm xs = (nm, r, true) := by unfold itemS; rw [hr]; simp
    rw [hs]
    exact ⟨A', c', q1, q2, q3⟩
  · have hs : itemS nm xs = (⟨#[]⟩, [], false) := by
      unfold itemS
      rcases hb : bare xs with _ | ⟨a, r⟩
      · rfl
      · rw [hb] at hn
        simp at hn
        simp [hn]
    rw [hs]
    exact ⟨none, 0, q1, World.ownsRow_nil _ _ _ _, q2⟩
theorem itemS_len (nm : ByteArray) (ws : List UInt8) : (itemS nm ws).2.1.length ≤ ws.length := by
  unfold itemS
  have := bare_len ws
  rcases hb : bare ws with _ | ⟨a, r⟩
  · simp
  · rw [hb] at this
    simp only
    split
    · simp at this ⊢; omega
    · simp
theorem item_u (nm : ByteArray) (A : Option Addr) (n c : Nat) (xs : List UInt8) (hxn : xs.length = n) (w : World) {B : Nat} (hx : Rd w B A (bv xs)) (hB : B ≤ w.heap.size) (hc : n ≤ c) (hm : c ≤ maxLen) (hn : n ≤ 140737488351231) :
    Calls Try.prog 10 #[.agg #[.string nm, .slice A n c]] w (ItemU (itemS nm xs) w) :=
  (item_any nm A n c xs hxn w hx hB hc hm hn).mono fun _ _ q => item_fold q
theorem item_ru (nm : ByteArray) (A : Option Addr) (n c : Nat) (xs : List UInt8) (hxn : xs.length = n) (w : World) {B : Nat} (hx : Rd w B A (bv xs)) (hB : B ≤ w.heap.size) (hc : n ≤ c) (hm : c ≤ maxLen) (hn : n ≤ 140737488351231) :
    Calls Try.prog 21 #[.agg #[.string nm, .slice A n c]] w (ItemU (itemS nm xs) w) :=
  (item_ref nm A n c xs hxn w hx hB hc hm hn).mono fun _ _ q => item_fold q
end Go.Proofs.Ytgoecnhkmfnenaa
