/- RangesCut: for any sets the program's cuts are the reference's, and the sets stay: the call returns true. Conditions: none. -/
import Derived.Test.YtlndfkanbibhhaaRows
import Derived.Test.YtlndfkanbibhhaaRngLaw
namespace Go.Proofs.Ytlndfkanbibhhaa.rangesCut
open Go.ChangeShapes Go.WideShapes Go.ChangeAt Go.RowKit

/-- a slice whose elements of so many cells are as told, in blocks below B -/
def Sl (B sz : Nat) (P : Nat → Nat → Prop) (v : Value) : Prop :=
  ∃ (A : Option Addr) (n c : Nat), v = .slice A n c ∧ n ≤ maxLen ∧ (n = 0 ∨ ∃ b off, A = some ⟨b, off, none⟩ ∧ b < B ∧ ∀ k, k < n → P b (off + k * sz))
def RngE (w : World) (b o : Nat) : Prop := ∃ x y : Int, w.cell? ⟨b, o, none⟩ = some (.int .i64 x) ∧ w.cell? ⟨b, o + 1, none⟩ = some (.int .i64 y)
def SetE (w : World) (B b o : Nat) : Prop := ∃ v : Value, w.cell? ⟨b, o, none⟩ = some v ∧ Sl B 2 (RngE w) v
section
variable {H : Type} {enc : TypeId × Value → H} {W : World}
set_option maxRecDepth 100000 in
theorem trod_sl {T E : TypeId} {sz : Nat} {Q : Nat → Nat → Prop} (hT : Try.prog.underlying T = some (.slice E)) (hsz : Try.prog.cellsOf E = sz) (h0 : 0 < sz)
    (hQ : ∀ (fuel : Nat) (cs : List Value) (x : DataW H × List MemPlace) (b o : Nat), b < W.heap.size → DataW.trod enc Try.prog W 0 (fun _ => true) true fuel E cs = some x → cs.length = sz → (∀ j, j < sz → W.cell? ⟨b, o + j, none⟩ = cs[j]?) → Q b o)
    {fuel : Nat} {cs : List Value} {x : DataW H × List MemPlace} (h : DataW.trod enc Try.prog W 0 (fun _ => true) true fuel T cs = some x) : ∃ v, cs = [v] ∧ Sl W.heap.size sz Q v := by
  rcases DataW.trod_slice hT h with ⟨rfl, _⟩ | ⟨a, len, cap, elems, rest, n, _, rfl, _, hb, hl, hm, hlen, hel, _, _⟩
  · exact ⟨_, rfl, none, 0, 0, rfl, by unfold maxLen; omega, .inl rfl⟩
  · refine ⟨_, rfl, some a, len, cap, rfl, by omega, ?_⟩
    by_cases hz : len = 0
    · exact .inl hz
    · have each : ∀ i, i < len → ∃ (f : Nat) (cs' : List Value) (y : DataW H × List MemPlace), DataW.trod enc Try.prog W 0 (fun _ => true) true f E cs' = some y ∧ cs'.length = sz ∧ (∀ j, j < sz → W.cell? ((a.add (i * sz)).add j) = cs'[j]?) ∧ (a.add (i * sz)).block < W.heap.size := by
        intro i hi
        have h1 := hel i hi
        rw [List.getElem?_eq_getElem (by omega), hsz, Option.bind_eq_some_iff] at h1
        obtain ⟨cs', hcs, hy'⟩ := h1
        obtain ⟨_, hcn, hc⟩ := World.cells?_some hcs
        exact ⟨_, cs', _, hy', hcn, hc, World.cells?_block hcs h0⟩
      obtain ⟨b, off, spot⟩ := a
      have hspot : spot = none := by
        obtain ⟨f, cs', y, _, hn, hc, _⟩ := each 0 (by omega)
        have h1 := hc 0 h0
        obtain ⟨v, hv⟩ : ∃ v, cs'[0]? = some v := ⟨_, List.getElem?_eq_getElem (by omega)⟩
        rw [hv] at h1
        simpa [Addr.add] using World.cell?_spot h1
      subst hspot
      refine .inr ⟨b, off, rfl, ?_, fun k hk => ?_⟩
      · obtain ⟨_, _, _, _, _, _, hbl⟩ := each 0 (by omega)
        simpa [Addr.add] using hbl
      · obtain ⟨f, cs', y, hy, hn, hc, hbl⟩ := each k hk
        refine hQ f cs' y b (off + k * sz) (by rw [add_plain] at hbl; exact hbl) hy hn fun j hj => ?_
        have := hc j hj
        rw [add_plain, add_plain] at this
        exact this
set_option maxRecDepth 100000 in
theorem el_rng (fuel : Nat) (cs : List Value) (x : DataW H × List MemPlace) (b o : Nat) (_ : b < W.heap.size) (h : DataW.trod enc Try.prog W 0 (fun _ => true) true fuel 37 cs = some x) (hl : cs.length = 2) (hc : ∀ j, j < 2 → W.cell? ⟨b, o + j, none⟩ = cs[j]?) : RngE W b o := by
  obtain ⟨xs, m, _, _, _, hxl, hf⟩ := DataW.trod_struct Try.underlying37 h
  simp only [List.size_toArray, List.length_cons, List.length_nil] at hxl
  match xs, hxl with
  | [x0, x1], _ =>
  match cs, hl with
  | [c0, c1], _ =>
  have g0 := hf 0 _ rfl
  have g1 := hf 1 _ rfl
  change DataW.trod _ _ _ _ _ _ _ 3 (List.take (Try.prog.cellsOf 3) [c0, c1]) = some x0 at g0
  rw [show Try.prog.cellsOf 3 = 1 by kernel_rfl] at g0
  change DataW.trod _ _ _ _ _ _ _ 3 (List.take (Try.prog.cellsOf 3) [c1]) = some x1 at g1
  rw [show Try.prog.cellsOf 3 = 1 by kernel_rfl] at g1
  obtain ⟨k0, e0, _, _⟩ := DataW.trod_int (k := .i64) (by kernel_rfl) g0
  obtain ⟨k1, e1, _, _⟩ := DataW.trod_int (k := .i64) (by kernel_rfl) g1
  simp at e0 e1
  subst e0
  subst e1
  exact ⟨k0, k1, hc 0 (by omega), hc 1 (by omega)⟩
theorem sl_rngs {fuel : Nat} {cs : List Value} {x : DataW H × List MemPlace} (h : DataW.trod enc Try.prog W 0 (fun _ => true) true fuel 23 cs = some x) : ∃ v, cs = [v] ∧ Sl W.heap.size 2 (RngE W) v :=
  trod_sl Try.underlying23 (show Try.prog.cellsOf 37 = 2 by kernel_rfl) (by omega) el_rng h
theorem el_set (fuel : Nat) (cs : List Value) (x : DataW H × List MemPlace) (b o : Nat) (_ : b < W.heap.size) (h : DataW.trod enc Try.prog W 0 (fun _ => true) true fuel 23 cs = some x) (_ : cs.length = 1) (hc : ∀ j, j < 1 → W.cell? ⟨b, o + j, none⟩ = cs[j]?) : SetE W W.heap.size b o := by
  obtain ⟨v, rfl, hs⟩ := sl_rngs h
  exact ⟨v, hc 0 (by omega), hs⟩
theorem sl_sets {fuel : Nat} {cs : List Value} {x : DataW H × List MemPlace} (h : DataW.trod enc Try.prog W 0 (fun _ => true) true fuel 22 cs = some x) : ∃ v, cs = [v] ∧ Sl W.heap.size 1 (SetE W W.heap.size) v :=
  trod_sl Try.underlying22 (show Try.prog.cellsOf 23 = 1 by kernel_rfl) (by omega) el_set h
end
theorem fl_of {w : World} {B n c : Nat} {A : Option Addr} (h : Sl B 2 (RngE w) (.slice A n c)) : ∃ l : List Rg, l.length = n ∧ n ≤ maxLen ∧ Rd w B A (fl l) := by
  obtain ⟨A', n', c', e, hm, h⟩ := h
  cases e
  rcases h with rfl | ⟨b, off, rfl, hb, hc⟩
  · exact ⟨[], rfl, hm, .inl rfl⟩
  · have each : ∀ k, k < n → ∃ r : Rg, w.cell? ⟨b, off + k * 2, none⟩ = some (.int .i64 r.1) ∧ w.cell? ⟨b, off + k * 2 + 1, none⟩ = some (.int .i64 r.2) := by
      intro k hk
      obtain ⟨x, y, h1, h2⟩ := hc k hk
      exact ⟨(x, y), h1, h2⟩
    obtain ⟨l, hl⟩ : ∃ l : List Rg, l = (List.range n).map fun k => if h : k < n then Classical.choose (each k h) else (0, 0) := ⟨_, rfl⟩
    have hlen : l.length = n := by rw [hl]; simp
    have hget : ∀ (k : Nat) (h : k < l.length), w.cell? ⟨b, off + k * 2, none⟩ = some (.int .i64 l[k].1) ∧ w.cell? ⟨b, off + k * 2 + 1, none⟩ = some (.int .i64 l[k].2) := by
      intro k hk
      have hk' : k < n := by omega
      have hs := Classical.choose_spec (each k hk')
      subst hl
      simpa [hk'] using hs
    refine ⟨l, hlen, hm, .inr ⟨b, off, rfl, hb, fun j hj => ?_⟩⟩
    rw [fl_len] at hj
    have hk : j / 2 < l.length := by omega
    obtain ⟨g1, g2⟩ := fl_get l (j / 2) hk
    obtain ⟨h1, h2⟩ := hget (j / 2) hk
    rcases Nat.mod_two_eq_zero_or_one j with hj2 | hj2
    · have e : j / 2 * 2 = j := by omega
      rw [e] at g1 h1
      rw [h1, (List.getElem?_eq_some_iff.1 g1).2]
    · have e : j / 2 * 2 + 1 = j := by omega
      rw [e] at g2
      rw [show off + j / 2 * 2 + 1 = off + j by omega] at h2
      rw [h2, (List.getElem?_eq_some_iff.1 g2).2]
theorem sets_of {w : World} {B n c : Nat} {A : Option Addr} (h : Sl B 1 (SetE w B) (.slice A n c)) : ∃ xss : List (List Rg), xss.length = n ∧ n ≤ maxLen ∧ Sets w B A xss ∧ ∀ l ∈ xss, l.length ≤ maxLen := by
  obtain ⟨A', n', c', e, hm, h⟩ := h
  cases e
  rcases h with rfl | ⟨b, off, rfl, hb, hc⟩
  · exact ⟨[], rfl, hm, .inl rfl, by simp⟩
  · have each : ∀ k, k < n → ∃ l : List Rg, l.length ≤ maxLen ∧ ∃ A2 c2, w.cell? ⟨b, off + k, none⟩ = some (.slice A2 l.length c2) ∧ Rd w B A2 (fl l) := by
      intro k hk
      obtain ⟨v, h1, h2⟩ := hc k hk
      obtain ⟨A2, n2, c2, rfl, _, _⟩ := id h2
      obtain ⟨l, rfl, hl, hr⟩ := fl_of h2
      rw [Nat.mul_one] at h1
      exact ⟨l, hl, A2, c2, h1, hr⟩
    obtain ⟨xss, hl⟩ : ∃ xss : List (List Rg), xss = (List.range n).map fun k => if h : k < n then Classical.choose (each k h) else [] := ⟨_, rfl⟩
    have hlen : xss.length = n := by rw [hl]; simp
    have hget : ∀ (k : Nat) (h : k < xss.length), xss[k].length ≤ maxLen ∧ ∃ A2 c2, w.cell? ⟨b, off + k, none⟩ = some (.slice A2 xss[k].length c2) ∧ Rd w B A2 (fl xss[k]) := by
      intro k hk
      have hk' : k < n := by omega
      have hs := Classical.choose_spec (each k hk')
      have e : xss[k] = Classical.choose (each k hk') := by subst hl; simp [hk']
      rw [e]
      exact hs
    refine ⟨xss, hlen, hm, .inr ⟨b, off, rfl, hb, fun k hk => (hget k hk).2⟩, fun l hl => ?_⟩
    obtain ⟨k, hk, rfl⟩ := List.getElem_of_mem hl
    exact (hget k hk).1
theorem open_sets {H : Type} {enc : TypeId × Value → H} {W : World} {r : Reach} {b0 : Nat} {v : Value} {d : DataW H} {p : List MemPlace} (hv : Value.okWide Try.prog W r b0 22 v) (h : DataW.Trod enc Try.prog W 0 (fun _ => true) true 22 v d p) :
    ∃ (A : Option Addr) (c : Nat) (xss : List (List Rg)), v = .slice A xss.length c ∧ xss.length ≤ maxLen ∧ Sets W W.heap.size A xss ∧ ∀ l ∈ xss, l.length ≤ maxLen := by
  have hs : ∃ A n c, v = .slice A n c := by
    simp only [Value.okWide, Try.underlying22, Cell.okWide] at hv
    cases v <;> simp_all [Cell.ok]
  obtain ⟨A, n, c, rfl⟩ := hs
  obtain ⟨fuel, hf⟩ := h
  obtain ⟨v', e, s⟩ := sl_sets hf
  simp [Value.cells] at e
  subst e
  obtain ⟨xss, rfl, h1, h2, h3⟩ := sets_of s
  exact ⟨A, c, xss, rfl, h1, h2, h3⟩
theorem walk (A : Option Addr) (c : Nat) (xss : List (List Rg)) (w : World) (hx : Sets w w.heap.size A xss) (hml : ∀ l ∈ xss, l.length ≤ maxLen) :
    Calls Try.prog 3 #[.slice A xss.length c] w fun e w' => e = .returned (.bool true) ∧ Below w.heap.size w w' := by
  by_cases h : xss.length ≤ 20 ∨ 256 < xss.length ∧ xss.length ≤ 300
  · exact law_any A c xss w hx h hml
  · exact law_many A c xss w (by omega) (by omega)
theorem own : ownKnob Try.prog.godebug = none := by kernel_rfl
theorem laidOut : laidOutB Try.prog = true := by kernel_rfl
set_option maxRecDepth 100000 in
theorem lifted (os : Os) (started : os.Started) (H : Type) (enc : TypeId × Value → H) :
    ReturnsInHanded {} Try.checked os 3 .any (Rows.rangesCutSpec.pre6 enc Try.prog Try.f3 Rows.rangesCutRow.domain false) (Rows.rangesCutSpec.post enc Try.prog Try.f3 false true false false) := by
  refine returnsInHanded_of_change_shaped (C := Try.checked) own started (by kernel_rfl) Try.func3
    (ChangeSpec.witness6 (enc := enc) (C := Try.checked) false ⟨#[], #[.slice none 0 0], []⟩ 8 (by kernel_rfl) (by kernel_rfl) (by kernel_rfl) (by kernel_rfl)) ?_
  intro W base args ds gs before hval0 hW _ hsz0 hsh0 _
  clear hsz0 hsh0
  have hval : ∀ (j : Nat) t v, Try.f3.params[j]? = some t → args[j]? = some v → Value.okWide Try.prog W .any base t v := hval0
  have hW' := hW
  obtain ⟨p, q, hA0, hV, rfl, hfz, hnd⟩ := hW
  have hA : DataW.TrodAll enc Try.prog W 0 (fun _ => true) true Try.f3.params.toList args.toList ds p := hA0
  rw [Try.params3] at hA hval
  obtain ⟨v0, vs0, d0, ds0, p0, q0, hargs, rfl, rfl, h0, r0⟩ := trodAll_cons hA
  obtain ⟨rfl, rfl, rfl⟩ := trodAll_nil r0
  obtain rfl : args = #[v0] := by cases args; simp_all
  obtain ⟨rfl, rfl⟩ := trodVars_none hV
  obtain ⟨A, c, xss, rfl, hml, hx, hl⟩ := open_sets (hval 0 22 v0 rfl rfl) h0
  clear hA0 hval0
  refine (walk A c xss W hx hl).mono fun e W' ⟨he, hb⟩ => ⟨_, he, ?_⟩
  exact law_post laidOut (of_decide_eq_true (by kernel_rfl)) rfl rfl Try.underlying4 (fun ds hl => by
    match ds, hl with
    | [_], _ => rfl) hW' hb

theorem proved : Rows.RangesCutSaid :=
  OpenClaim.holds_of_wide 3 Try.f3 rfl rfl rfl rfl rfl rfl rfl ⟨rfl, rfl, rfl, rfl, rfl⟩ rfl rfl rfl rfl rfl (by kernel_rfl) Try.func3 (by kernel_rfl)
    (of_decide_eq_true (by kernel_rfl)) (by unfold Func.isWrapper; first | (rw [if_pos (by decide +kernel)]; kernel_rfl) | (rw [if_neg (by decide +kernel)]; exact ⟨rfl, rfl⟩))
    (fun os started H enc _ => lifted os started H enc)
end Go.Proofs.Ytlndfkanbibhhaa.rangesCut
