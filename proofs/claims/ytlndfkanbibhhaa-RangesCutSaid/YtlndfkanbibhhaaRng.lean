/- How ranges, sets of ranges and lists of numbers lie in memory; and what Check, Has, With, places and Turns answer of them, in plain words. Conditions: none. -/
import Derived.Test.YtlndfkanbibhhaaApp
import Derived.Deep.RegionHeld3
import Derived.Deep.QuietTactic
import Derived.BigQuiet
import Derived.Lib.Hide
import Derived.Test.YtlndfkanbibhhaaChecked
namespace Go.Proofs.Ytlndfkanbibhhaa
open Go.RowKit
abbrev Rg := Int × Int
def iv (xs : List Int) : List Value := xs.map fun x => Value.int .i64 x
theorem iv_len (xs : List Int) : (iv xs).length = xs.length := by simp [iv]
/-- a set's cells -/
def fl : List Rg → List Value
  | [] => []
  | r :: l => .int .i64 r.1 :: .int .i64 r.2 :: fl l
theorem fl_len : ∀ l : List Rg, (fl l).length = l.length * 2
  | [] => rfl
  | r :: l => by simp [fl, fl_len l]; omega
theorem fl_get : ∀ (l : List Rg) (k : Nat) (h : k < l.length), (fl l)[k * 2]? = some (.int .i64 l[k].1) ∧ (fl l)[k * 2 + 1]? = some (.int .i64 l[k].2)
  | [], k, h => by simp at h
  | r :: l, 0, _ => by simp [fl]
  | r :: l, k + 1, h => by
    have := fl_get l k (by simpa using h)
    rw [show (k + 1) * 2 = k * 2 + 2 by omega, show k * 2 + 2 + 1 = k * 2 + 1 + 2 by omega]
    simpa [fl] using this
theorem fl_one {l : List Rg} : ∀ u ∈ fl l, u.oneCell' = true := by
  induction l with
  | nil => simp [fl]
  | cons r l ih =>
    intro u hu
    simp only [fl, List.mem_cons] at hu
    rcases hu with rfl | rfl | hu
    · rfl
    · rfl
    · exact ih u hu
theorem iv_one {l : List Int} : ∀ u ∈ iv l, u.oneCell' = true := by
  intro u hu
  simp only [iv, List.mem_map] at hu
  obtain ⟨x, _, rfl⟩ := hu
  rfl
theorem Rd.int {w : World} {B : Nat} {A : Option Addr} {xs : List Int} (h : Rd w B A (iv xs)) {k : Nat} (hk : k < xs.length) :
    ∃ b off, A = some ⟨b, off, none⟩ ∧ b < B ∧ ∀ (j : Nat) (h : j < xs.length), w.cell? ⟨b, off + j, none⟩ = some (.int .i64 xs[j]) := by
  obtain ⟨b, off, e, hb, hc⟩ := h.at' (k := k) (by rw [iv_len]; exact hk)
  refine ⟨b, off, e, hb, fun j hj => ?_⟩
  rw [hc j (by rw [iv_len]; exact hj)]
  simp [iv]
theorem Rd.rng {w : World} {B : Nat} {A : Option Addr} {xs : List Rg} (h : Rd w B A (fl xs)) {k : Nat} (hk : k < xs.length) :
    ∃ b off, A = some ⟨b, off, none⟩ ∧ b < B ∧ ∀ (j : Nat) (h : j < xs.length), w.cell? ⟨b, off + j * 2, none⟩ = some (.int .i64 xs[j].1) ∧ w.cell? ⟨b, off + j * 2 + 1, none⟩ = some (.int .i64 xs[j].2) := by
  obtain ⟨b, off, e, hb, hc⟩ := h.at' (k := k) (by rw [fl_len]; omega)
  refine ⟨b, off, e, hb, fun j hj => ?_⟩
  have h1 := hc (j * 2) (by rw [fl_len]; omega)
  have h2 := hc (j * 2 + 1) (by rw [fl_len]; omega)
  obtain ⟨g1, g2⟩ := fl_get xs j hj
  rw [List.getElem?_eq_some_iff] at g1 g2
  obtain ⟨_, g1⟩ := g1
  obtain ⟨_, g2⟩ := g2
  rw [h1, g1, show off + j * 2 + 1 = off + (j * 2 + 1) by omega, h2, g2]
  exact ⟨rfl, rfl⟩
/-- sets of ranges, in blocks below B -/
def Sets (w : World) (B : Nat) (A : Option Addr) (xss : List (List Rg)) : Prop :=
  xss = [] ∨ ∃ b off, A = some ⟨b, off, none⟩ ∧ b < B ∧ ∀ (k : Nat) (h : k < xss.length), ∃ A' c, w.cell? ⟨b, off + k, none⟩ = some (.slice A' xss[k].length c) ∧ Rd w B A' (fl xss[k])
theorem Sets.at' {w : World} {B : Nat} {A : Option Addr} {xss : List (List Rg)} (h : Sets w B A xss) {k : Nat} (hk : k < xss.length) :
    ∃ b off A' c, A = some ⟨b, off, none⟩ ∧ b < B ∧ w.cell? ⟨b, off + k, none⟩ = some (.slice A' xss[k].length c) ∧ Rd w B A' (fl xss[k]) := by
  rcases h with rfl | ⟨b, off, e, hb, h⟩
  · simp at hk
  · obtain ⟨A', c, h1, h2⟩ := h k hk
    exact ⟨b, off, A', c, e, hb, h1, h2⟩
theorem Sets.thru {w w' : World} {B B' : Nat} {A : Option Addr} {xss : List (List Rg)} (h : Sets w B A xss) (hb : Below B' w w') (hB : B ≤ B') : Sets w' B A xss := by
  rcases h with rfl | ⟨b, off, e, hl, h⟩
  · exact .inl rfl
  · refine .inr ⟨b, off, e, hl, fun k hk => ?_⟩
    obtain ⟨A', c, h1, h2⟩ := h k hk
    exact ⟨A', c, (hb.cell (p := ⟨b, off + k, none⟩) (by show b < B'; omega)).trans h1, h2.thru hb hB⟩
theorem Sets.mono {w : World} {B B' : Nat} {A : Option Addr} {xss : List (List Rg)} (h : Sets w B A xss) (hB : B ≤ B') : Sets w B' A xss := by
  rcases h with rfl | ⟨b, off, e, hl, h⟩
  · exact .inl rfl
  · refine .inr ⟨b, off, e, by omega, fun k hk => ?_⟩
    obtain ⟨A', c, h1, h2⟩ := h k hk
    exact ⟨A', c, h1, h2.mono hB⟩

/-- plain words -/
def oneB (x : Rg) : Bool := decide (0 ≤ x.1) && decide (x.1 ≤ x.2) && decide (x.2 ≤ 1114111)
def chk : Int → List Rg → Bool
  | _, [] => true
  | last, x :: r => oneB x && decide (last + 2 ≤ x.1) && chk x.2 r
def mayB (l : List Rg) : Bool := decide (l.length ≤ 256) && chk (-2) l
def hasB (l : List Rg) (n : Int) : Bool := l.any fun r => decide (r.1 ≤ n) && decide (n ≤ r.2)
def atI (l : List Int) (n : Int) : Nat := (l.takeWhile fun x => decide (x < n)).length
def withL (l : List Int) (n : Int) : List Int := if 1114111 < n ∨ l[atI l n]? = some n then l else l.take (atI l n) ++ [n] ++ l.drop (atI l n)
def plc (o : List Int) (l : List Rg) : List Int := l.foldl (fun o r => withL (withL o r.1) (r.2 + 1)) o
def plcs (xss : List (List Rg)) : List Int := xss.foldl plc [0]
def turnB (xss : List (List Rg)) (p : Int) : Bool := xss.any fun s => hasB s p != hasB s (p - 1)
def turnsL (xss : List (List Rg)) : List Int := 0 :: ((plcs xss).drop 1).filter (turnB xss)
def bnds (l : List Rg) : List Int := l.flatMap fun r => [r.1, r.2 + 1]
theorem chk_drop {last : Int} {l : List Rg} {k : Nat} (h : k < l.length) : chk last (l.drop k) = (oneB l[k] && decide (last + 2 ≤ l[k].1) && chk l[k].2 (l.drop (k + 1))) := by
  rw [List.drop_eq_getElem_cons h]
  rfl
theorem has_drop {l : List Rg} {n : Int} {k : Nat} (h : k < l.length) : hasB (l.drop k) n = (decide (l[k].1 ≤ n) && decide (n ≤ l[k].2) || hasB (l.drop (k + 1)) n) := by
  rw [List.drop_eq_getElem_cons h]
  rfl
theorem turn_drop {xss : List (List Rg)} {p : Int} {k : Nat} (h : k < xss.length) : turnB (xss.drop k) p = ((hasB xss[k] p != hasB xss[k] (p - 1)) || turnB (xss.drop (k + 1)) p) := by
  rw [List.drop_eq_getElem_cons h]
  rfl
theorem plc_take {o : List Int} {l : List Rg} {k : Nat} (h : k < l.length) : plc o (l.take (k + 1)) = withL (withL (plc o (l.take k)) l[k].1) (l[k].2 + 1) := by
  unfold plc
  rw [List.take_succ_eq_append_getElem h, List.foldl_append]
  rfl
theorem plcs_take {xss : List (List Rg)} {k : Nat} (h : k < xss.length) : plcs (xss.take (k + 1)) = plc (plcs (xss.take k)) xss[k] := by
  unfold plcs
  rw [List.take_succ_eq_append_getElem h, List.foldl_append]
  rfl
theorem withL_len (l : List Int) (n : Int) : (withL l n).length ≤ l.length + 1 := by
  unfold withL
  split
  · omega
  · simp
    omega
theorem withL_len1 (l : List Int) (n : Int) : l.length ≤ (withL l n).length := by
  unfold withL
  split
  · omega
  · simp
    omega
theorem plc_len : ∀ (l : List Rg) (o : List Int), (plc o l).length ≤ o.length + 2 * l.length
  | [], o => by simp [plc]
  | r :: l, o => by
    have h1 := withL_len o r.1
    have h2 := withL_len (withL o r.1) (r.2 + 1)
    have h3 := plc_len l (withL (withL o r.1) (r.2 + 1))
    have e : plc o (r :: l) = plc (withL (withL o r.1) (r.2 + 1)) l := rfl
    rw [e, List.length_cons]
    omega
theorem plcs_len (xss : List (List Rg)) (h : ∀ l ∈ xss, l.length ≤ 20) : (plcs xss).length ≤ 1 + 40 * xss.length := by
  have : ∀ (yss : List (List Rg)) (o : List Int), (∀ l ∈ yss, l.length ≤ 20) → (yss.foldl plc o).length ≤ o.length + 40 * yss.length := by
    intro yss
    induction yss with
    | nil => intro o _; simp
    | cons l yss ih =>
      intro o h
      have h1 := plc_len l o
      have h2 := h l (by simp)
      have h3 := ih (plc o l) (fun x hx => h x (by simp [hx]))
      rw [List.foldl_cons, List.length_cons]
      omega
  exact this xss [0] h
theorem withL_bd {l : List Int} {n : Int} (hn : 0 ≤ n) (h : ∀ x ∈ l, 0 ≤ x ∧ x ≤ 1114111) : ∀ x ∈ withL l n, 0 ≤ x ∧ x ≤ 1114111 := by
  intro x hx
  unfold withL at hx
  split at hx
  · exact h x hx
  · rename_i g
    simp only [not_or] at g
    simp only [List.mem_append, List.mem_singleton] at hx
    rcases hx with (hx | hx) | hx
    · exact h x (List.mem_of_mem_take hx)
    · subst hx; omega
    · exact h x (List.mem_of_mem_drop hx)
theorem chk_one : ∀ (l : List Rg) (last : Int), chk last l = true → ∀ r ∈ l, oneB r = true
  | [], _, _ => by simp
  | x :: l, last, h => by
    intro r hr
    simp only [chk, Bool.and_eq_true] at h
    rcases List.mem_cons.1 hr with rfl | hr
    · exact h.1.1
    · exact chk_one l x.2 h.2 r hr
theorem oneB_iff (x : Rg) : oneB x = true ↔ 0 ≤ x.1 ∧ x.1 ≤ x.2 ∧ x.2 ≤ 1114111 := by
  simp [oneB, and_assoc]
theorem plc_bd : ∀ (l : List Rg) (o : List Int), (∀ r ∈ l, oneB r = true) → (∀ x ∈ o, 0 ≤ x ∧ x ≤ 1114111) → ∀ x ∈ plc o l, 0 ≤ x ∧ x ≤ 1114111
  | [], o, _, h => h
  | r :: l, o, hl, h => by
    have h1 := (oneB_iff r).1 (hl r (by simp))
    exact plc_bd l _ (fun r hr => hl r (by simp [hr])) (withL_bd (by omega) (withL_bd (by omega) h))
theorem plcs_bd (xss : List (List Rg)) (h : ∀ l ∈ xss, ∀ r ∈ l, oneB r = true) : ∀ x ∈ plcs xss, 0 ≤ x ∧ x ≤ 1114111 := by
  have : ∀ (yss : List (List Rg)) (o : List Int), (∀ l ∈ yss, ∀ r ∈ l, oneB r = true) → (∀ x ∈ o, 0 ≤ x ∧ x ≤ 1114111) → ∀ x ∈ yss.foldl plc o, 0 ≤ x ∧ x ≤ 1114111 := by
    intro yss
    induction yss with
    | nil => intro o _ h; exact h
    | cons l yss ih =>
      intro o hl h
      exact ih _ (fun l' h' => hl l' (by simp [h'])) (plc_bd l o (hl l (by simp)) h)
  exact this xss [0] h (by simp)
theorem plcs_pos (xss : List (List Rg)) : 1 ≤ (plcs xss).length := by
  have h1 : ∀ (l : List Rg) (o : List Int), o.length ≤ (plc o l).length := by
    intro l
    induction l with
    | nil => intro o; exact Nat.le_refl _
    | cons r l ih =>
      intro o
      have := ih (withL (withL o r.1) (r.2 + 1))
      have h1 := withL_len1 o r.1
      have h2 := withL_len1 (withL o r.1) (r.2 + 1)
      have e : plc o (r :: l) = plc (withL (withL o r.1) (r.2 + 1)) l := rfl
      rw [e]
      omega
  have : ∀ (yss : List (List Rg)) (o : List Int), o.length ≤ (yss.foldl plc o).length := by
    intro yss
    induction yss with
    | nil => intro o; exact Nat.le_refl _
    | cons l yss ih =>
      intro o
      have := ih (plc o l)
      have := h1 l o
      rw [List.foldl_cons]
      omega
  exact this xss [0]
end Go.Proofs.Ytlndfkanbibhhaa
