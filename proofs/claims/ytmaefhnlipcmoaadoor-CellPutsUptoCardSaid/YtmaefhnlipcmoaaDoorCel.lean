/- Cells: how they lie in memory; what Check, Behind answer of them, in plain words. Conditions: none. -/
import Derived.Test.YtmaefhnlipcmoaaDoorApp
import Derived.Test.YtmaefhnlipcmoaaDoorChecked
import Derived.Deep.RegionHeld3
import Derived.Deep.QuietTactic
import Derived.BigQuiet
import Derived.Lib.Hide
import Derived.Lib.ValidU
namespace Go.Proofs.YtmaefhnlipcmoaaDoor
open Go.RowKit
structure Cel where
  kind : Nat
  name : ByteArray
  text : ByteArray
  num : Int
  many : Int
/-- a cell's own cells -/
def Cel.vs (c : Cel) : List Value := [.int .u8 c.kind, .string c.name, .string c.text, .int .i64 c.num, .int .i64 c.many]
def Cel.val (c : Cel) : Value := .agg #[.int .u8 c.kind, .string c.name, .string c.text, .int .i64 c.num, .int .i64 c.many]
def cv : List Cel → List Value
  | [] => []
  | c :: l => .int .u8 c.kind :: .string c.name :: .string c.text :: .int .i64 c.num :: .int .i64 c.many :: cv l
theorem cv_len : ∀ l : List Cel, (cv l).length = l.length * 5
  | [] => rfl
  | c :: l => by simp [cv, cv_len l]; omega
theorem cv_app : ∀ (a b : List Cel), cv (a ++ b) = cv a ++ cv b
  | [], _ => rfl
  | c :: a, b => by simp [cv, cv_app a b]
theorem cv_get : ∀ (l : List Cel) (k : Nat) (h : k < l.length), (cv l)[k * 5]? = some (.int .u8 l[k].kind) ∧ (cv l)[k * 5 + 1]? = some (.string l[k].name) ∧ (cv l)[k * 5 + 2]? = some (.string l[k].text) ∧ (cv l)[k * 5 + 3]? = some (.int .i64 l[k].num) ∧ (cv l)[k * 5 + 4]? = some (.int .i64 l[k].many)
  | [], k, h => by simp at h
  | c :: l, 0, _ => by simp [cv]
  | c :: l, k + 1, h => by
    have := cv_get l k (by simpa using h)
    rw [show (k + 1) * 5 = k * 5 + 5 by omega, show k * 5 + 5 + 1 = k * 5 + 1 + 5 by omega, show k * 5 + 5 + 2 = k * 5 + 2 + 5 by omega, show k * 5 + 5 + 3 = k * 5 + 3 + 5 by omega, show k * 5 + 5 + 4 = k * 5 + 4 + 5 by omega]
    simpa [cv] using this
theorem cv_one {l : List Cel} : ∀ u ∈ cv l, u.oneCell' = true := by
  induction l with
  | nil => simp [cv]
  | cons c l ih =>
    intro u hu
    simp only [cv, List.mem_cons] at hu
    rcases hu with rfl | rfl | rfl | rfl | rfl | hu
    · rfl
    · rfl
    · rfl
    · rfl
    · rfl
    · exact ih u hu
/-- a cell at an address -/
def CelAt (w : World) (b o : Nat) (c : Cel) : Prop :=
  w.cell? ⟨b, o, none⟩ = some (.int .u8 c.kind) ∧ w.cell? ⟨b, o + 1, none⟩ = some (.string c.name) ∧ w.cell? ⟨b, o + 2, none⟩ = some (.string c.text) ∧ w.cell? ⟨b, o + 3, none⟩ = some (.int .i64 c.num) ∧ w.cell? ⟨b, o + 4, none⟩ = some (.int .i64 c.many)
theorem CelAt.keep {w w' : World} {b o : Nat} {c : Cel} (h : CelAt w b o c) (hk : ∀ o, w'.cell? ⟨b, o, none⟩ = w.cell? ⟨b, o, none⟩) : CelAt w' b o c := by
  unfold CelAt at *
  rw [hk, hk, hk, hk, hk]
  exact h
theorem Rd.cel {w : World} {B : Nat} {A : Option Addr} {xs : List Cel} (h : Rd w B A (cv xs)) {k : Nat} (hk : k < xs.length) :
    ∃ b off, A = some ⟨b, off, none⟩ ∧ b < B ∧ ∀ (j : Nat) (h : j < xs.length), CelAt w b (off + j * 5) xs[j] := by
  obtain ⟨b, off, e, hb, hc⟩ := h.at' (k := k) (by rw [cv_len]; omega)
  refine ⟨b, off, e, hb, fun j hj => ?_⟩
  obtain ⟨g0, g1, g2, g3, g4⟩ := cv_get xs j hj
  have at5 : ∀ t, t < 5 → ∀ v, (cv xs)[j * 5 + t]? = some v → w.cell? ⟨b, off + j * 5 + t, none⟩ = some v := by
    intro t ht v hv
    obtain ⟨hl, e⟩ := List.getElem?_eq_some_iff.1 hv
    rw [Nat.add_assoc, hc (j * 5 + t) hl, e]
  exact ⟨at5 0 (by omega) _ g0, at5 1 (by omega) _ g1, at5 2 (by omega) _ g2, at5 3 (by omega) _ g3, at5 4 (by omega) _ g4⟩

/-- plain words -/
def e0 : ByteArray := ⟨#[]⟩
def textOk (s : ByteArray) : Bool := decide (s.size ≤ 16384) && Lib.validD s.data.toList
def isLetter (b : UInt8) : Bool := decide (97 ≤ b.toNat) && decide (b.toNat ≤ 122) || decide (65 ≤ b.toNat) && decide (b.toNat ≤ 90) || decide (b.toNat = 95)
def isDigit (b : UInt8) : Bool := decide (48 ≤ b.toNat) && decide (b.toNat ≤ 57)
def nameFrom : List UInt8 → Nat → Bool
  | [], _ => true
  | b :: r, j => (isLetter b || isDigit b && decide (0 < j)) && nameFrom r (j + 1)
def nameOk (s : ByteArray) : Bool := decide (0 < s.size) && nameFrom s.data.toList 0
def oneC (c : Cel) : Bool :=
  if c.kind = 0 then decide (c.text = e0) && decide (c.num = 0) && decide (c.many = 0)
  else if c.kind = 1 then decide (c.text = e0) && (decide (c.num = 0) || decide (c.num = 1)) && decide (c.many = 0)
  else if c.kind = 2 then decide (c.text = e0) && decide (c.many = 0)
  else if c.kind = 3 then textOk c.text && decide (c.num = 0) && decide (c.many = 0)
  else if c.kind = 4 ∨ c.kind = 5 then nameOk c.text && decide (c.num = 0) && decide (c.many = 0)
  else if c.kind = 6 ∨ c.kind = 7 then decide (c.text = e0) && decide (c.num = 0) && decide (0 ≤ c.many)
  else false
/-- may this stand in a list, or in an object that has these names already? -/
def kidOk (kind : Nat) (ns : List ByteArray) (n : ByteArray) : Bool := if kind = 6 then decide (n = e0) else !decide (n = e0) && textOk n && !(ns.any fun x => decide (x = n))
def loop (f : Nat → Option Nat) (v : List Cel) (kind : Nat) : Nat → Nat → List ByteArray → Option Nat
  | 0, at_, _ => some at_
  | m + 1, at_, ns => match v[at_]? with
    | none => none
    | some c => if kidOk kind ns c.name = true then (match f at_ with | none => none | some nx => loop f v kind m nx (c.name :: ns)) else none
def bh (v : List Cel) : Nat → Nat → Option Nat
  | 0, at_ => match v[at_]? with
    | none => none
    | some c => if oneC c = true ∧ ¬ (c.kind = 6 ∨ c.kind = 7) then some (at_ + 1) else none
  | d + 1, at_ => match v[at_]? with
    | none => none
    | some c => if oneC c = true then (if c.kind = 6 ∨ c.kind = 7 then loop (bh v d) v c.kind c.many.toNat (at_ + 1) [] else some (at_ + 1)) else none
def mayC (v : List Cel) : Bool := decide (0 < v.length) && decide (v.length ≤ 2048) && (match v[0]? with | some c => decide (c.name = e0) | none => false) && decide (bh v 16 0 = some v.length)
def ans : Option Nat → Int
  | none => -1
  | some n => n
theorem loop_mono {f g : Nat → Option Nat} (h : ∀ a e, f a = some e → g a = some e) (v : List Cel) (kind : Nat) : ∀ m a ns e, loop f v kind m a ns = some e → loop g v kind m a ns = some e
  | 0, a, ns, e, hl => hl
  | m + 1, a, ns, e, hl => by
    unfold loop at hl ⊢
    cases hv : v[a]? with
    | none => rw [hv] at hl; cases hl
    | some c =>
      rw [hv] at hl
      simp only at hl ⊢
      by_cases hk : kidOk kind ns c.name = true
      · rw [if_pos hk] at hl ⊢
        cases hf : f a with
        | none => rw [hf] at hl; cases hl
        | some nx =>
          rw [hf] at hl
          rw [h a nx hf]
          exact loop_mono h v kind m nx _ e hl
      · rw [if_neg hk] at hl; cases hl
theorem bh_succ (v : List Cel) : ∀ d a e, bh v d a = some e → bh v (d + 1) a = some e
  | 0, a, e, h => by
    unfold bh at h ⊢
    cases hv : v[a]? with
    | none => rw [hv] at h; cases h
    | some c =>
      rw [hv] at h
      simp only at h ⊢
      split at h
      · rename_i hc
        rw [if_pos hc.1, if_neg hc.2]
        exact h
      · cases h
  | d + 1, a, e, h => by
    rw [bh] at h ⊢
    cases hv : v[a]? with
    | none => rw [hv] at h; cases h
    | some c =>
      rw [hv] at h
      simp only at h ⊢
      split at h
      · rename_i hc
        rw [if_pos hc]
        split at h
        · rename_i hk
          rw [if_pos hk]
          exact loop_mono (bh_succ v d) v c.kind _ _ _ e h
        · rename_i hk
          rw [if_neg hk]
          exact h
      · cases h
theorem bh_mono (v : List Cel) {d d' a e : Nat} (hd : d ≤ d') (h : bh v d a = some e) : bh v d' a = some e := by
  induction hd with
  | refl => exact h
  | step _ ih => exact bh_succ v _ a e ih
theorem loop_gt {f : Nat → Option Nat} {v : List Cel} (h : ∀ a e, f a = some e → a < e ∧ e ≤ v.length) (kind : Nat) : ∀ m a ns e, a ≤ v.length → loop f v kind m a ns = some e → a + m ≤ e ∧ e ≤ v.length
  | 0, a, ns, e, ha, hl => by
    simp only [loop, Option.some.injEq] at hl
    omega
  | m + 1, a, ns, e, ha, hl => by
    unfold loop at hl
    cases hv : v[a]? with
    | none => rw [hv] at hl; cases hl
    | some c =>
      rw [hv] at hl
      simp only at hl
      split at hl
      · cases hf : f a with
        | none => rw [hf] at hl; cases hl
        | some nx =>
          rw [hf] at hl
          have h1 := h a nx hf
          have h2 := loop_gt h kind m nx _ e h1.2 hl
          omega
      · cases hl
theorem bh_gt (v : List Cel) : ∀ d a e, bh v d a = some e → a < e ∧ e ≤ v.length
  | 0, a, e, h => by
    unfold bh at h
    cases hv : v[a]? with
    | none => rw [hv] at h; cases h
    | some c =>
      rw [hv] at h
      have hl := (List.getElem?_eq_some_iff.1 hv).1
      simp only at h
      split at h
      · simp at h; omega
      · cases h
  | d + 1, a, e, h => by
    rw [bh] at h
    cases hv : v[a]? with
    | none => rw [hv] at h; cases h
    | some c =>
      rw [hv] at h
      have hl := (List.getElem?_eq_some_iff.1 hv).1
      simp only at h
      split at h
      · split at h
        · have := loop_gt (bh_gt v d) c.kind _ _ _ e (by omega) h
          omega
        · simp at h; omega
      · cases h
end Go.Proofs.YtmaefhnlipcmoaaDoor
