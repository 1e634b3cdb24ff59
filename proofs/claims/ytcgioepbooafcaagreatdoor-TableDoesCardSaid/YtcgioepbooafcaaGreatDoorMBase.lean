/- The frame that every law of this seat shares: from 'the call returns true and nothing below has changed' to the row. Conditions: none. Lemmas on rows that a call owns: what several stores in a row leave, and how an owned row reads. Conditions: none. append of what can be read, nil or empty too, to a row that the call owns: as a run, in a plain region, in a region that draws its order. Conditions: lengths within the model's. append of what can be read, nil or empty too, to a row that the call owns, elements of several cells. Conditions: lengths within the model's. Cells: how they lie in memory; what Check, Behind answer of them, in plain words. Conditions: none. Code points in bytes, forth and back: plain laws. Conditions: none. What the next code point is, and Go's two tables of utf8. Conditions: none. What Next takes in, Back takes in: plain laws. Conditions: none. What a code point is, and its bytes: provostref01.Is and Bytes. Conditions: the number a code point (Bytes). A text as a chain of code points: what is valid, how many code points there are. Conditions: none. Code points as lists of numbers, and the bytes of a text: plain laws. Conditions: none. The reference's number, One. Conditions: a place within the text. The reference's One: do so many bytes tell a code point? Conditions: a place within the text. The reference's Next, Back. Conditions: at most 2,000,000 bytes. -/
import Derived.WalkKit
import Derived.ProofKit
import Derived.OpenShut
import Derived.HandedShaped
import Derived.SizedLaws
import Derived.Deep.CondSized
import Derived.JoinedCond
import Derived.Lib.Hide
import Derived.Deep.Draws
import Derived.Lib.Strings
import Derived.Laws.IdiomCopy
import Derived.Laws.AppendOwn
import Derived.Laws.AppendOwnNone
import Derived.Deep.RegionLaw
import Derived.Test.YtcgioepbooafcaaGreatDoorChecked
import Derived.Deep.RegionHeld3
import Derived.Deep.QuietTactic
import Derived.BigQuiet
import Derived.Lib.ValidU
import Derived.Lib.DecodeN
import Derived.Lib.SpaceU
import Derived.Lib.TrimU
import Derived.Shelf.Unicode.DecodeSlow
import Derived.WalkLawsBesides
import Derived.WalkSpells
import Derived.Lib.LaidU8
import Derived.Lib.RuneBytes
import Derived.Lib.RuneCount
import Derived.Shelf.Bytes.SlSmallAll
namespace Go.Proofs.YtcgioepbooafcaaGreatDoor
section
open Go.ChangeShapes Go.WideShapes Go.ChangeAt Go.RowKit

theorem _root_.Go.RowKit.Below.of_drewN (B : Nat) (w : World) (n : Nat) : Below B w (w.drewN n) := ⟨rfl, rfl, rfl, Nat.le_refl _, fun _ _ => rfl⟩
theorem _root_.Go.RowKit.Below.drewN' {B : Nat} {a w : World} (h : Below B a w) (n : Nat) : Below B a (w.drewN n) := h.trans (Below.of_drewN _ _ _)
theorem world_of {w w' : World} (h : ∃ n, w' = w.drewN n) : Below w.heap.size w w' := by
  obtain ⟨n, rfl⟩ := h
  exact Below.of_drewN _ _ _
theorem ret_int {k : IntKind} {a b : Int} (h : a = b) : Ending.returned (.int k a) = .returned (.int k b) := by rw [h]
theorem ret_bool {a b : Bool} (h : a = b) : Ending.returned (.bool a) = .returned (.bool b) := by rw [h]
theorem ret_str {a b : ByteArray} (h : a = b) : Ending.returned (.string a) = .returned (.string b) := by rw [h]
theorem ret_v {a b : Value} (h : a = b) : Ending.returned a = .returned b := by rw [h]
theorem ex_drew {w : World} {n m : Nat} : ∃ q, (w.drewN n).drewN m = w.drewN q := ⟨_, World.drewN_drewN ..⟩
theorem ex_drew0 {w : World} {n : Nat} : ∃ q, w.drewN n = w.drewN q := ⟨_, rfl⟩
theorem ex_same {w : World} : ∃ q, w = w.drewN q := ⟨0, rfl⟩

/-- A slice's cells, as a list: nothing is asked of the address where there is none. -/
def Rd (w : World) (B : Nat) (A : Option Addr) (xs : List Value) : Prop :=
  xs = [] ∨ ∃ b off, A = some ⟨b, off, none⟩ ∧ b < B ∧ ∀ (j : Nat) (h : j < xs.length), w.cell? ⟨b, off + j, none⟩ = some xs[j]
theorem Rd.nil {w : World} {B : Nat} {A : Option Addr} : Rd w B A [] := .inl rfl
theorem Rd.at' {w : World} {B : Nat} {A : Option Addr} {xs : List Value} (h : Rd w B A xs) {k : Nat} (hk : k < xs.length) :
    ∃ b off, A = some ⟨b, off, none⟩ ∧ b < B ∧ ∀ (j : Nat) (h : j < xs.length), w.cell? ⟨b, off + j, none⟩ = some xs[j] := by
  rcases h with rfl | h
  · simp at hk
  · exact h
theorem Rd.keep {w w' : World} {B B' : Nat} {A : Option Addr} {xs : List Value} (h : Rd w B A xs) (hB : B ≤ B') (hk : ∀ p : Addr, p.block < B → w'.cell? p = w.cell? p) : Rd w' B' A xs := by
  rcases h with rfl | ⟨b, off, e, hb, hc⟩
  · exact .inl rfl
  · exact .inr ⟨b, off, e, by omega, fun j hj => (hk _ hb).trans (hc j hj)⟩
theorem Rd.below {w w' : World} {B B' : Nat} {A : Option Addr} {xs : List Value} (h : Rd w B A xs) (hb : Below B' w w') (hB : B ≤ B') : Rd w' B' A xs :=
  h.keep hB fun _ hp => hb.cell (by omega)
theorem Rd.thru {w w' : World} {B B' : Nat} {A : Option Addr} {xs : List Value} (h : Rd w B A xs) (hb : Below B' w w') (hB : B ≤ B') : Rd w' B A xs :=
  h.keep (Nat.le_refl _) fun _ hp => hb.cell (by omega)
theorem Rd.via {w w' : World} {B B' : Nat} {A : Option Addr} {xs : List Value} (hb : Below B' w w') (h : Rd w B A xs) (hB : B ≤ B') : Rd w' B A xs := h.thru hb hB
theorem Rd.drewN {w : World} {B : Nat} {A : Option Addr} {xs : List Value} (h : Rd w B A xs) (n : Nat) : Rd (w.drewN n) B A xs := h
theorem Rd.mono {w : World} {B B' : Nat} {A : Option Addr} {xs : List Value} (h : Rd w B A xs) (hB : B ≤ B') : Rd w B' A xs := h.keep hB fun _ _ => rfl
/-- a slice of strings -/
def sv (xs : List ByteArray) : List Value := xs.map Value.string
theorem sv_len (xs : List ByteArray) : (sv xs).length = xs.length := by simp [sv]
theorem Rd.str {w : World} {B : Nat} {A : Option Addr} {xs : List ByteArray} (h : Rd w B A (sv xs)) {k : Nat} (hk : k < xs.length) :
    ∃ b off, A = some ⟨b, off, none⟩ ∧ b < B ∧ ∀ (j : Nat) (h : j < xs.length), w.cell? ⟨b, off + j, none⟩ = some (.string xs[j]) := by
  obtain ⟨b, off, e, hb, hc⟩ := h.at' (k := k) (by rw [sv_len]; exact hk)
  refine ⟨b, off, e, hb, fun j hj => ?_⟩
  rw [hc j (by rw [sv_len]; exact hj)]
  simp [sv]
theorem ba_ext {a b : ByteArray} (h : a.toList = b.toList) : a = b := by
  rw [Lib.toList_data, Lib.toList_data] at h
  obtain ⟨⟨l⟩⟩ := a
  obtain ⟨⟨m⟩⟩ := b
  simp at h
  rw [h]
theorem ba_beq (a b : ByteArray) : (a.toList == b.toList) = decide (a = b) := by
  by_cases h : a = b
  · subst h; simp
  · rw [decide_eq_false h, beq_eq_false_iff_ne]
    exact fun e => h (ba_ext e)

section
variable {H : Type} {enc : TypeId × Value → H} {P : Program}
theorem trodAll_below (hl : laidOutB P = true) {W W' : World} (hb : Below W.heap.size W W') :
    ∀ (ts : List TypeId) (vs : List Value) (ds : List (DataW H)) (ps : List MemPlace), (∀ t ∈ ts, P.readableRec t = true ∧ t < P.types.size) →
      DataW.TrodAll enc P W 0 (fun _ => true) true ts vs ds ps → (∀ x ∈ ps, x.block < W.heap.size) →
      DataW.TrodAll enc P W' 0 (fun b => decide (b < W.heap.size)) true ts vs ds ps := by
  intro ts
  induction ts with
  | nil =>
    intro vs ds ps _ h _
    obtain ⟨rfl, rfl, rfl⟩ := trodAll_nil h
    exact trodAll_mk0
  | cons t ts ih =>
    intro vs ds ps ht h hlt
    obtain ⟨v, vs', d, ds', p, q, rfl, rfl, rfl, h1, h2⟩ := trodAll_cons h
    refine trodAll_cons_mk ?_ ?_
    · exact Below.trod hl (ht t (by simp)).1 (ht t (by simp)).2 h1 hb (fun x hx => hlt x (by simp [hx]))
    · exact ih vs' ds' q (fun t' h' => ht t' (by simp [h'])) h2 (fun x hx => hlt x (by simp [hx]))

theorem trodAll_len {w : World} {base : Nat} {spare : Nat → Bool} {held : Bool} : ∀ (ts : List TypeId) (vs : List Value) (ds : List (DataW H)) (ps : List MemPlace),
    DataW.TrodAll enc P w base spare held ts vs ds ps → ds.length = ts.length := by
  intro ts
  induction ts with
  | nil =>
    intro vs ds ps h
    obtain ⟨_, rfl, _⟩ := trodAll_nil h
    rfl
  | cons t ts ih =>
    intro vs ds ps h
    obtain ⟨v, vs', d, ds', p, q, rfl, rfl, rfl, h1, h2⟩ := trodAll_cons h
    simp [ih _ _ _ h2]

/-- what the row asks at the end: the call gave true, nothing below the old heap has changed. -/
theorem law_post {f : Func} {s : ChangeSpec} {apart fresh handsOn : Bool} {W W' : World} {args : Array Value} {ds gs : List (DataW H)} {before : List MemPlace} {tb : TypeId}
    (hl : laidOutB P = true) (hts : ∀ t ∈ f.params.toList, P.readableRec t = true ∧ t < P.types.size) (hvars : s.vars = [])
    (hres : f.resultTypes = #[tb]) (htb : P.underlying tb = some .bool)
    (hspec : ∀ ds : List (DataW H), ds.length = f.params.toList.length → s.fn H ds = { results := [.lit (.bool true)], args := ds })
    (hW : DataW.Whole enc P f.params.toList s.vars apart W args.toList ds gs before) (hb : Below W.heap.size W W') :
    s.post enc P f apart fresh handsOn false W args (.bool true) W' := by
  have hlt : ∀ p ∈ before, p.block < W.heap.size := fun p hp => hW.lt p hp
  have hW2 := hW
  obtain ⟨p, q, hA, hV, rfl, _, _⟩ := hW2
  rw [hvars] at hV
  obtain ⟨rfl, rfl⟩ := trodVars_none hV
  have hlen : ds.length = f.params.toList.length := trodAll_len _ _ _ _ hA
  have hs := hspec ds hlen
  refine ⟨ds, [], _, [], p, [], hW, ?_, ?_, ?_, hb.frame _, fun h => by cases h⟩
  · rw [List.append_nil, hs, hres]
    have hv : (Value.bool true).resultList (#[tb] : Array TypeId).size = [.bool true] := rfl
    rw [hv]
    exact trodAll_mk1 (shut_bool htb true)
  · rw [List.append_nil, hs]
    exact trodAll_below hl hb _ _ _ _ hts hA (fun x hx => hlt x (by simp [hx]))
  · rw [List.append_nil, hs, hvars]
    rfl
end
end
section
open Go.RowKit

def putA : Array Value → Nat → List Value → Array Value
  | c, _, [] => c
  | c, o, v :: r => putA (c.setIfInBounds o v) (o + 1) r
theorem putA_size : ∀ (vs : List Value) (c : Array Value) (o : Nat), (putA c o vs).size = c.size
  | [], _, _ => rfl
  | v :: r, c, o => by rw [putA, putA_size r]; simp
theorem putA_list : ∀ (vs : List Value) (c : Array Value) (o : Nat), o + vs.length ≤ c.size → (putA c o vs).toList = c.toList.take o ++ vs ++ c.toList.drop (o + vs.length)
  | [], c, o, _ => by simp [putA]
  | v :: r, c, o, h => by
    simp only [List.length_cons] at h
    rw [putA, putA_list r _ _ (by simp; omega)]
    have hl : (c.toList.take o).length = o := by rw [List.length_take, Array.length_toList]; omega
    rw [Array.toList_setIfInBounds, List.set_eq_take_append_cons_drop, if_pos (by rw [Array.length_toList]; omega)]
    have e1 : (c.toList.take o).take (o + 1) = c.toList.take o := List.take_of_length_le (by omega)
    have e2 : (c.toList.take o).drop (o + 1 + r.length) = [] := List.drop_of_length_le (by omega)
    rw [List.take_append, List.drop_append, e1, e2, hl, show o + 1 - o = 1 by omega, show o + 1 + r.length - o = r.length + 1 by omega]
    simp only [List.take_succ_cons, List.take_zero, List.drop_succ_cons, List.nil_append, List.drop_drop, List.append_assoc, List.cons_append, List.length_cons]
    rw [show o + 1 + r.length = o + (r.length + 1) by omega]
theorem heap_setCells {g : Nat} {e : TypeId} : ∀ (vs : List Value) (o : Nat) (w : World) (cur : Array Value), w.heap[g]? = some (.cells cur e (0, 0)) →
    (w.setCells g o vs).heap[g]? = some (.cells (putA cur o vs) e (0, 0))
  | [], _, _, _, h => h
  | v :: r, o, w, cur, h => by
    rw [World.setCells, putA]
    apply heap_setCells r
    simp [World.setCell, Array.getElem?_modify, h]
theorem below_setCells' {B g : Nat} (hg : B ≤ g) : ∀ (vs : List Value) (o : Nat) (w : World), Below B w (w.setCells g o vs)
  | [], _, _ => Below.refl _ _
  | v :: r, o, w => by
    rw [World.setCells]
    exact ((Below.refl B w).setCell hg v).trans (below_setCells' hg r (o + 1) _)
theorem heap_size_setCells (g : Nat) : ∀ (vs : List Value) (o : Nat) (w : World), (w.setCells g o vs).heap.size = w.heap.size
  | [], _, _ => rfl
  | v :: r, o, w => by rw [World.setCells, heap_size_setCells g r]; simp [World.setCell]
theorem Rd.of_own {w : World} {base n c : Nat} {e : TypeId} {A : Option Addr} {xs : List Value} (h : w.ownsRow base e 1 (.slice A n c) n xs) : Rd w w.heap.size A xs := by
  obtain ⟨h1, h2⟩ := h
  rcases h2 with ⟨h3, rfl⟩ | ⟨g, cap, cur, h3, hg, hh, hn, hc, hs, ht⟩
  · left
    exact List.eq_nil_of_length_eq_zero (by omega)
  · simp only [Value.slice.injEq] at h3
    obtain ⟨rfl, _, rfl⟩ := h3
    right
    refine ⟨g, 0, rfl, ?_, fun j hj => ?_⟩
    · rcases Nat.lt_or_ge g w.heap.size with h | h
      · exact h
      · rw [Array.getElem?_eq_none h] at hh; cases hh
    · subst ht
      simp only [World.cell?, hh, Nat.zero_add]
      simp
/-- an owned row's value is a slice of that length -/
theorem own_slice {w : World} {base n : Nat} {e : TypeId} {sz : Nat} {v : Value} {xs : List Value} (h : w.ownsRow base e sz v n xs) : ∃ A c, v = .slice A n c ∧ n ≤ c ∧ c ≤ maxLen := by
  rcases h.2 with ⟨h3, rfl⟩ | ⟨g, cap, cur, h3, hg, hh, hn, hc, hs, ht⟩
  · exact ⟨none, 0, h3, Nat.le_refl _, by unfold maxLen; omega⟩
  · exact ⟨_, cap, h3, hn, hc⟩
theorem own_below {w w' : World} {base n B : Nat} {e : TypeId} {sz : Nat} {v : Value} {xs : List Value} (h : w.ownsRow base e sz v n xs) (hb : Below B w w') (hg : ∀ g, v.ownBlock = some g → g < B) : w'.ownsRow base e sz v n xs := by
  refine ⟨h.1, ?_⟩
  rcases h.2 with h3 | ⟨g, cap, cur, rfl, hg', hh, r⟩
  · exact .inl h3
  · exact .inr ⟨g, cap, cur, rfl, hg', (hb.block g (hg g rfl)).trans hh, r⟩
theorem own_lt {w : World} {base n : Nat} {e : TypeId} {sz : Nat} {v : Value} {xs : List Value} (h : w.ownsRow base e sz v n xs) : ∀ g, v.ownBlock = some g → g < w.heap.size := by
  intro g hg
  rcases h.2 with ⟨rfl, _⟩ | ⟨g', cap, cur, rfl, hg', hh, r⟩
  · simp [Value.ownBlock] at hg
  · simp [Value.ownBlock] at hg
    subst hg
    rcases Nat.lt_or_ge g' w.heap.size with h | h
    · exact h
    · rw [Array.getElem?_eq_none h] at hh; cases hh
theorem own_base {w : World} {base base' n : Nat} {e : TypeId} {sz : Nat} {v : Value} {xs : List Value} (h : w.ownsRow base e sz v n xs) (hb : base' ≤ base) : w.ownsRow base' e sz v n xs := by
  refine ⟨h.1, ?_⟩
  rcases h.2 with h3 | ⟨g, cap, cur, rfl, hg', r⟩
  · exact .inl h3
  · exact .inr ⟨g, cap, cur, rfl, by omega, r⟩
theorem zeroCells_size1 (z : Value) (n : Nat) : (Builtin.zeroCells #[z] n).size = n := by simp [Builtin.zeroCells]
theorem ins_list {α : Type} (P Q Y Z : List α) (s : α) (hY : 0 < Y.length) (i m : Nat) (hi : i = P.length) (hm : m = P.length + Q.length + 1) :
    ((((P ++ Y).take (i + 1) ++ Q ++ Z).take i ++ [s] ++ ((P ++ Y).take (i + 1) ++ Q ++ Z).drop (i + 1)).take m) = P ++ s :: Q := by
  subst hi hm
  have e1 : (P ++ Y).take (P.length + 1) = P ++ Y.take 1 := by
    rw [List.take_append, List.take_of_length_le (by omega), show P.length + 1 - P.length = 1 by omega]
  obtain ⟨y, Y, rfl⟩ := List.exists_cons_of_length_pos hY
  rw [e1, List.take_succ_cons, List.take_zero]
  have e2 : (P ++ [y] ++ Q ++ Z).take P.length = P := by
    rw [List.append_assoc, List.append_assoc, List.take_left']
    rfl
  have e3 : (P ++ [y] ++ Q ++ Z).drop (P.length + 1) = Q ++ Z := by
    rw [List.append_assoc, List.drop_left']
    simp
  rw [e2, e3, ← List.append_assoc, List.take_left']
  · simp
  · simp; omega
theorem rd_new (w : World) (arr : Array Value) (e : TypeId) (L : List Value) (h : arr.toList = L) : Rd (w.alloc (.cells arr e)) (w.heap.size + 1) (some ⟨w.heap.size, 0, none⟩) L := by
  subst h
  refine .inr ⟨w.heap.size, 0, rfl, by omega, fun j hj => ?_⟩
  simp only [World.cell?, heap_alloc_new, Nat.zero_add]
  simp
theorem own_len {w : World} {base n c : Nat} {e : TypeId} {sz : Nat} {A : Option Addr} {xs : List Value} (h : w.ownsRow base e sz (.slice A n c) n xs) : n ≤ c := by
  obtain ⟨A', c', h1, h2, h3⟩ := own_slice h
  simp only [Value.slice.injEq] at h1
  omega
theorem own_cap {w : World} {base n c : Nat} {e : TypeId} {sz : Nat} {A : Option Addr} {xs : List Value} (h : w.ownsRow base e sz (.slice A n c) n xs) : c ≤ maxLen := by
  obtain ⟨A', c', h1, h2, h3⟩ := own_slice h
  simp only [Value.slice.injEq] at h1
  omega
end
section
open Go.RowKit
theorem run_append_rd {P : Program} (w : World) (base : Nat) (t ty e : TypeId) (i : TypeInfo) (z : Value) (bytes : Nat) (ht : P.underlying t = some (.slice e)) (hi : P.info? e = some i) (hz : i.zero = some z)
    (hsize : i.size = 1) (hby : i.bytes = bytes) (hzs : z.cells.size = 1) (v : Value) (n : Nat) (xs : List Value) (hown : w.ownsRow base e 1 v n xs)
    {B : Nat} {A : Option Addr} {m c : Nat} {news : List Value} (hr : Rd w B A news) (hl : news.length = m) (h1 : ∀ u ∈ news, u.oneCell' = true)
    (h63 : n + m ≤ maxLen) (hbytes : (n + m) * bytes ≤ 140737488355328) (hbase : base ≤ w.heap.size) :
    ∃ v' w', (Builtin.append_ #[t, t] ty #[v, .slice A m c]).run P w = .ok v' w' ∧ w'.ownsRow base e 1 v' (n + m) (xs ++ news) ∧ w.grownBy w' v.ownBlock := by
  have main : ∀ ad, A = some ad → (∀ j u, news[j]? = some u → w.cell? (ad.add j) = some u) →
      ∃ v' w', (Builtin.append_ #[t, t] ty #[v, .slice A m c]).run P w = .ok v' w' ∧ w'.ownsRow base e 1 v' (n + m) (xs ++ news) ∧ w.grownBy w' v.ownBlock := by
    rintro ad rfl hc
    obtain ⟨v', w', r1, r2, r3, _⟩ := run_append_own (P := P) w base t ty e i z 1 bytes ht hi hz hsize hby hzs (by omega) v n xs hown ad m c news (by omega) hc h1 h63 hbytes hbase
    exact ⟨v', w', r1, r2, r3⟩
  rcases hr with rfl | ⟨b, off, rfl, _, hc⟩
  · rcases A with _ | ad
    · obtain rfl : m = 0 := by simpa using hl.symm
      refine ⟨v, w, ?_, by simpa using hown, ⟨rfl, rfl, rfl, Nat.le_refl _, fun _ _ _ => rfl⟩⟩
      rcases hown.2 with ⟨rfl, rfl⟩ | ⟨g, cap, cur, rfl, _, _, hnc, _⟩
      · simp [Builtin.append_, run_underlying ht, sizeOf, typeInfo, hi, Builtin.lenOf, Builtin.firstCells]
      · simp [Builtin.append_, run_underlying ht, sizeOf, typeInfo, hi, Builtin.lenOf, Builtin.firstCells, hnc, storeCells]
    · exact main ad rfl (by intro j u hj; simp at hj)
  · refine main _ rfl fun j u hj => ?_
    obtain ⟨hj', rfl⟩ := List.getElem?_eq_some_iff.1 hj
    rw [Addr.add_lit]
    exact hc j hj'
theorem wpList_append_rd {P : Program} (w : World) {ops : Array Oper} {rest : List Oper} {o : Oper} {a : Act} {Q : Exit → Act → World → Prop} (hgd : o.guard = none) (s x : Operand) (t : TypeId)
    (ho : o.op = .call { callee := .builtin .append, args := #[s, x], argTypes := #[t, t] })
    (base : Nat) (e : TypeId) (i : TypeInfo) (z : Value) (bytes : Nat) (ht : P.underlying t = some (.slice e)) (hi : P.info? e = some i) (hz : i.zero = some z)
    (hsize : i.size = 1) (hby : i.bytes = bytes) (hzs : z.cells.size = 1) (v : Value) (n : Nat) (xs : List Value) (hs : a.eval s = v) (hown : w.ownsRow base e 1 v n xs)
    {B : Nat} (A : Option Addr) (m c : Nat) (news : List Value) (hx : a.eval x = .slice A m c) (hr : Rd w B A news) (hl : news.length = m) (h1 : ∀ u ∈ news, u.oneCell' = true)
    (h63 : n + m ≤ maxLen) (hbytes : (n + m) * bytes ≤ 140737488355328) (hbase : base ≤ w.heap.size)
    (h : ∀ v' w', w'.ownsRow base e 1 v' (n + m) (xs ++ news) → w.grownBy w' v.ownBlock → (∀ k, v.ownBlock = some k → base ≤ k) → wpList P ops Q rest (a.put o.dst v') w') : wpList P ops Q (o :: rest) a w := by
  refine wpList_plain hgd fun K hK => ?_
  obtain ⟨v', w', hrun, r1, r2⟩ := run_append_rd (P := P) w base t o.type e i z bytes ht hi hz hsize hby hzs v n xs hown (c := c) hr hl h1 h63 hbytes hbase
  unfold Oper.wp
  simp [execOp, ho, resolve, invoke, builtin, hs, hx, hrun, Result.andThen]
  exact hK _ _ (h v' w' r1 r2 fun k hk => (hown.lt k hk).1)
theorem step_append_rd {P : Program} {ops : Array Oper} {o : Oper} {a : Act} {w : World} {K : Act → World → Prop} {Q : Exit → Act → World → Prop} {E : Prop}
    (hg : o.guard = none) (s x : Operand) (t : TypeId) (hop : o.op = Op.call { callee := Callee.builtin Builtin.append, args := #[s, x], argTypes := #[t, t] })
    (base : Nat) (e : TypeId) (i : TypeInfo) (z : Value) (bytes : Nat) (ht : P.underlying t = some (.slice e)) (hi : P.info? e = some i) (hz : i.zero = some z)
    (hsize : i.size = 1) (hby : i.bytes = bytes) (hzs : z.cells.size = 1) (v : Value) (n : Nat) (xs : List Value) (hs : a.eval s = v) (hown : w.ownsRow base e 1 v n xs)
    {B : Nat} (A : Option Addr) (m c : Nat) (news : List Value) (hx : a.eval x = .slice A m c) (hr : Rd w B A news) (hl : news.length = m) (h1 : ∀ u ∈ news, u.oneCell' = true)
    (h63 : n + m ≤ maxLen) (hbytes : (n + m) * bytes ≤ 140737488355328) (hbase : base ≤ w.heap.size)
    (hK : ∀ v' w', w'.ownsRow base e 1 v' (n + m) (xs ++ news) → w.grownBy w' v.ownBlock → (∀ k, v.ownBlock = some k → base ≤ k) → K (a.put o.dst v') w') :
    if Region.wanted o (yielded ops a.tmps) = true then Oper.wp P o a w K Q else E := by
  have hw : Region.wanted o (yielded ops a.tmps) = true := by simp [Region.wanted, hg]
  rw [if_pos hw]
  obtain ⟨v', w', hrun, r1, r2⟩ := run_append_rd (P := P) w base t o.type e i z bytes ht hi hz hsize hby hzs v n xs hown (c := c) hr hl h1 h63 hbytes hbase
  unfold Oper.wp
  simp [execOp, hop, resolve, invoke, builtin, hs, hx, hrun, Result.andThen]
  exact hK v' w' r1 r2 fun k hk => (hown.lt k hk).1
end
section
open Go.RowKit
theorem run_append_rdK {P : Program} (w : World) (base : Nat) (t ty e : TypeId) (i : TypeInfo) (z : Value) (size bytes : Nat) (ht : P.underlying t = some (.slice e)) (hi : P.info? e = some i) (hz : i.zero = some z)
    (hsize : i.size = size) (hby : i.bytes = bytes) (hzs : z.cells.size = size) (hpos : 0 < size) (v : Value) (n : Nat) (xs : List Value) (hown : w.ownsRow base e size v n xs)
    {B : Nat} {A : Option Addr} {m c : Nat} {news : List Value} (hr : Rd w B A news) (hl : news.length = m * size) (h1 : ∀ u ∈ news, u.oneCell' = true)
    (h63 : n + m ≤ maxLen) (hbytes : (n + m) * bytes ≤ 140737488355328) (hbase : base ≤ w.heap.size) :
    ∃ v' w', (Builtin.append_ #[t, t] ty #[v, .slice A m c]).run P w = .ok v' w' ∧ w'.ownsRow base e size v' (n + m) (xs ++ news) ∧ w.grownBy w' v.ownBlock := by
  have main : ∀ ad, A = some ad → (∀ j u, news[j]? = some u → w.cell? (ad.add j) = some u) →
      ∃ v' w', (Builtin.append_ #[t, t] ty #[v, .slice A m c]).run P w = .ok v' w' ∧ w'.ownsRow base e size v' (n + m) (xs ++ news) ∧ w.grownBy w' v.ownBlock := by
    rintro ad rfl hc
    obtain ⟨v', w', r1, r2, r3, _⟩ := run_append_own (P := P) w base t ty e i z size bytes ht hi hz hsize hby hzs hpos v n xs hown ad m c news hl hc h1 h63 hbytes hbase
    exact ⟨v', w', r1, r2, r3⟩
  rcases hr with rfl | ⟨b, off, rfl, _, hc⟩
  · rcases A with _ | ad
    · obtain rfl : m = 0 := by
        have : m * size = 0 := by simpa using hl.symm
        rcases Nat.mul_eq_zero.1 this with h | h
        · exact h
        · omega
      refine ⟨v, w, ?_, by simpa using hown, ⟨rfl, rfl, rfl, Nat.le_refl _, fun _ _ _ => rfl⟩⟩
      rcases hown.2 with ⟨rfl, rfl⟩ | ⟨g, cap, cur, rfl, _, _, hnc, _⟩
      · simp [Builtin.append_, run_underlying ht, sizeOf, typeInfo, hi, Builtin.lenOf, Builtin.firstCells]
      · simp [Builtin.append_, run_underlying ht, sizeOf, typeInfo, hi, Builtin.lenOf, Builtin.firstCells, hnc, storeCells]
    · exact main ad rfl (by intro j u hj; simp at hj)
  · refine main _ rfl fun j u hj => ?_
    obtain ⟨hj', rfl⟩ := List.getElem?_eq_some_iff.1 hj
    rw [Addr.add_lit]
    exact hc j hj'
theorem wpList_append_rdK {P : Program} (w : World) {ops : Array Oper} {rest : List Oper} {o : Oper} {a : Act} {Q : Exit → Act → World → Prop} (hgd : o.guard = none) (s x : Operand) (t : TypeId)
    (ho : o.op = .call { callee := .builtin .append, args := #[s, x], argTypes := #[t, t] })
    (base : Nat) (e : TypeId) (i : TypeInfo) (z : Value) (size bytes : Nat) (ht : P.underlying t = some (.slice e)) (hi : P.info? e = some i) (hz : i.zero = some z)
    (hsize : i.size = size) (hby : i.bytes = bytes) (hzs : z.cells.size = size) (hpos : 0 < size) (v : Value) (n : Nat) (xs : List Value) (hs : a.eval s = v) (hown : w.ownsRow base e size v n xs)
    {B : Nat} (A : Option Addr) (m c : Nat) (news : List Value) (hx : a.eval x = .slice A m c) (hr : Rd w B A news) (hl : news.length = m * size) (h1 : ∀ u ∈ news, u.oneCell' = true)
    (h63 : n + m ≤ maxLen) (hbytes : (n + m) * bytes ≤ 140737488355328) (hbase : base ≤ w.heap.size)
    (h : ∀ v' w', w'.ownsRow base e size v' (n + m) (xs ++ news) → w.grownBy w' v.ownBlock → (∀ k, v.ownBlock = some k → base ≤ k) → wpList P ops Q rest (a.put o.dst v') w') : wpList P ops Q (o :: rest) a w := by
  refine wpList_plain hgd fun K hK => ?_
  obtain ⟨v', w', hrun, r1, r2⟩ := run_append_rdK (P := P) w base t o.type e i z size bytes ht hi hz hsize hby hzs hpos v n xs hown (c := c) hr hl h1 h63 hbytes hbase
  unfold Oper.wp
  simp [execOp, ho, resolve, invoke, builtin, hs, hx, hrun, Result.andThen]
  exact hK _ _ (h v' w' r1 r2 fun k hk => (hown.lt k hk).1)
end
section
open Go.RowKit
structure Cel where
  kind : Nat
  name : ByteArray
  text : ByteArray
  num : Int
  many : Int
/-- a cell's own cells -/
def Cel.vs (c : Cel) : List Value := [.int .u8 c.kind, .string c.name, .string c.text, .int .i64 c.num, .int .i64 c.many]
def Cel.val (c : Cel) : Value := .agg #[.int .u8 c.kind, .string c.name, .string c.text, .int .i64 c.num, .int .i64 c.many]
def cv : List Cel → List Value
  | [] => []
  | c :: l => .int .u8 c.kind :: .string c.name :: .string c.text :: .int .i64 c.num :: .int .i64 c.many :: cv l
theorem cv_len : ∀ l : List Cel, (cv l).length = l.length * 5
  | [] => rfl
  | c :: l => by simp [cv, cv_len l]; omega
theorem cv_app : ∀ (a b : List Cel), cv (a ++ b) = cv a ++ cv b
  | [], _ => rfl
  | c :: a, b => by simp [cv, cv_app a b]
theorem cv_get : ∀ (l : List Cel) (k : Nat) (h : k < l.length), (cv l)[k * 5]? = some (.int .u8 l[k].kind) ∧ (cv l)[k * 5 + 1]? = some (.string l[k].name) ∧ (cv l)[k * 5 + 2]? = some (.string l[k].text) ∧ (cv l)[k * 5 + 3]? = some (.int .i64 l[k].num) ∧ (cv l)[k * 5 + 4]? = some (.int .i64 l[k].many)
  | [], k, h => by simp at h
  | c :: l, 0, _ => by simp [cv]
  | c :: l, k + 1, h => by
    have := cv_get l k (by simpa using h)
    rw [show (k + 1) * 5 = k * 5 + 5 by omega, show k * 5 + 5 + 1 = k * 5 + 1 + 5 by omega, show k * 5 + 5 + 2 = k * 5 + 2 + 5 by omega, show k * 5 + 5 + 3 = k * 5 + 3 + 5 by omega, show k * 5 + 5 + 4 = k * 5 + 4 + 5 by omega]
    simpa [cv] using this
theorem cv_one {l : List Cel} : ∀ u ∈ cv l, u.oneCell' = true := by
  induction l with
  | nil => simp [cv]
  | cons c l ih =>
    intro u hu
    simp only [cv, List.mem_cons] at hu
    rcases hu with rfl | rfl | rfl | rfl | rfl | hu
    · rfl
    · rfl
    · rfl
    · rfl
    · rfl
    · exact ih u hu
/-- a cell at an address -/
def CelAt (w : World) (b o : Nat) (c : Cel) : Prop :=
  w.cell? ⟨b, o, none⟩ = some (.int .u8 c.kind) ∧ w.cell? ⟨b, o + 1, none⟩ = some (.string c.name) ∧ w.cell? ⟨b, o + 2, none⟩ = some (.string c.text) ∧ w.cell? ⟨b, o + 3, none⟩ = some (.int .i64 c.num) ∧ w.cell? ⟨b, o + 4, none⟩ = some (.int .i64 c.many)
theorem CelAt.keep {w w' : World} {b o : Nat} {c : Cel} (h : CelAt w b o c) (hk : ∀ o, w'.cell? ⟨b, o, none⟩ = w.cell? ⟨b, o, none⟩) : CelAt w' b o c := by
  unfold CelAt at *
  rw [hk, hk, hk, hk, hk]
  exact h
theorem Rd.cel {w : World} {B : Nat} {A : Option Addr} {xs : List Cel} (h : Rd w B A (cv xs)) {k : Nat} (hk : k < xs.length) :
    ∃ b off, A = some ⟨b, off, none⟩ ∧ b < B ∧ ∀ (j : Nat) (h : j < xs.length), CelAt w b (off + j * 5) xs[j] := by
  obtain ⟨b, off, e, hb, hc⟩ := h.at' (k := k) (by rw [cv_len]; omega)
  refine ⟨b, off, e, hb, fun j hj => ?_⟩
  obtain ⟨g0, g1, g2, g3, g4⟩ := cv_get xs j hj
  have at5 : ∀ t, t < 5 → ∀ v, (cv xs)[j * 5 + t]? = some v → w.cell? ⟨b, off + j * 5 + t, none⟩ = some v := by
    intro t ht v hv
    obtain ⟨hl, e⟩ := List.getElem?_eq_some_iff.1 hv
    rw [Nat.add_assoc, hc (j * 5 + t) hl, e]
  exact ⟨at5 0 (by omega) _ g0, at5 1 (by omega) _ g1, at5 2 (by omega) _ g2, at5 3 (by omega) _ g3, at5 4 (by omega) _ g4⟩

/-- plain words -/
def e0 : ByteArray := ⟨#[]⟩
def textOk (s : ByteArray) : Bool := decide (s.size ≤ 16384) && Lib.validD s.data.toList
def isLetter (b : UInt8) : Bool := decide (97 ≤ b.toNat) && decide (b.toNat ≤ 122) || decide (65 ≤ b.toNat) && decide (b.toNat ≤ 90) || decide (b.toNat = 95)
def isDigit (b : UInt8) : Bool := decide (48 ≤ b.toNat) && decide (b.toNat ≤ 57)
def nameFrom : List UInt8 → Nat → Bool
  | [], _ => true
  | b :: r, j => (isLetter b || isDigit b && decide (0 < j)) && nameFrom r (j + 1)
def nameOk (s : ByteArray) : Bool := decide (0 < s.size) && nameFrom s.data.toList 0
def oneC (c : Cel) : Bool :=
  if c.kind = 0 then decide (c.text = e0) && decide (c.num = 0) && decide (c.many = 0)
  else if c.kind = 1 then decide (c.text = e0) && (decide (c.num = 0) || decide (c.num = 1)) && decide (c.many = 0)
  else if c.kind = 2 then decide (c.text = e0) && decide (c.many = 0)
  else if c.kind = 3 then textOk c.text && decide (c.num = 0) && decide (c.many = 0)
  else if c.kind = 4 ∨ c.kind = 5 then nameOk c.text && decide (c.num = 0) && decide (c.many = 0)
  else if c.kind = 6 ∨ c.kind = 7 then decide (c.text = e0) && decide (c.num = 0) && decide (0 ≤ c.many)
  else false
/-- may this stand in a list, or in an object that has these names already? -/
def kidOk (kind : Nat) (ns : List ByteArray) (n : ByteArray) : Bool := if kind = 6 then decide (n = e0) else !decide (n = e0) && textOk n && !(ns.any fun x => decide (x = n))
def loop (f : Nat → Option Nat) (v : List Cel) (kind : Nat) : Nat → Nat → List ByteArray → Option Nat
  | 0, at_, _ => some at_
  | m + 1, at_, ns => match v[at_]? with
    | none => none
    | some c => if kidOk kind ns c.name = true then (match f at_ with | none => none | some nx => loop f v kind m nx (c.name :: ns)) else none
def bh (v : List Cel) : Nat → Nat → Option Nat
  | 0, at_ => match v[at_]? with
    | none => none
    | some c => if oneC c = true ∧ ¬ (c.kind = 6 ∨ c.kind = 7) then some (at_ + 1) else none
  | d + 1, at_ => match v[at_]? with
    | none => none
    | some c => if oneC c = true then (if c.kind = 6 ∨ c.kind = 7 then loop (bh v d) v c.kind c.many.toNat (at_ + 1) [] else some (at_ + 1)) else none
def mayC (v : List Cel) : Bool := decide (0 < v.length) && decide (v.length ≤ 2048) && (match v[0]? with | some c => decide (c.name = e0) | none => false) && decide (bh v 16 0 = some v.length)
def ans : Option Nat → Int
  | none => -1
  | some n => n
theorem loop_mono {f g : Nat → Option Nat} (h : ∀ a e, f a = some e → g a = some e) (v : List Cel) (kind : Nat) : ∀ m a ns e, loop f v kind m a ns = some e → loop g v kind m a ns = some e
  | 0, a, ns, e, hl => hl
  | m + 1, a, ns, e, hl => by
    unfold loop at hl ⊢
    cases hv : v[a]? with
    | none => rw [hv] at hl; cases hl
    | some c =>
      rw [hv] at hl
      simp only at hl ⊢
      by_cases hk : kidOk kind ns c.name = true
      · rw [if_pos hk] at hl ⊢
        cases hf : f a with
        | none => rw [hf] at hl; cases hl
        | some nx =>
          rw [hf] at hl
          rw [h a nx hf]
          exact loop_mono h v kind m nx _ e hl
      · rw [if_neg hk] at hl; cases hl
theorem bh_succ (v : List Cel) : ∀ d a e, bh v d a = some e → bh v (d + 1) a = some e
  | 0, a, e, h => by
    unfold bh at h ⊢
    cases hv : v[a]? with
    | none => rw [hv] at h; cases h
    | some c =>
      rw [hv] at h
      simp only at h ⊢
      split at h
      · rename_i hc
        rw [if_pos hc.1, if_neg hc.2]
        exact h
      · cases h
  | d + 1, a, e, h => by
    rw [bh] at h ⊢
    cases hv : v[a]? with
    | none => rw [hv] at h; cases h
    | some c =>
      rw [hv] at h
      simp only at h ⊢
      split at h
      · rename_i hc
        rw [if_pos hc]
        split at h
        · rename_i hk
          rw [if_pos hk]
          exact loop_mono (bh_succ v d) v c.kind _ _ _ e h
        · rename_i hk
          rw [if_neg hk]
          exact h
      · cases h
theorem bh_mono (v : List Cel) {d d' a e : Nat} (hd : d ≤ d') (h : bh v d a = some e) : bh v d' a = some e := by
  induction hd with
  | refl => exact h
  | step _ ih => exact bh_succ v _ a e ih
theorem loop_gt {f : Nat → Option Nat} {v : List Cel} (h : ∀ a e, f a = some e → a < e ∧ e ≤ v.length) (kind : Nat) : ∀ m a ns e, a ≤ v.length → loop f v kind m a ns = some e → a + m ≤ e ∧ e ≤ v.length
  | 0, a, ns, e, ha, hl => by
    simp only [loop, Option.some.injEq] at hl
    omega
  | m + 1, a, ns, e, ha, hl => by
    unfold loop at hl
    cases hv : v[a]? with
    | none => rw [hv] at hl; cases hl
    | some c =>
      rw [hv] at hl
      simp only at hl
      split at hl
      · cases hf : f a with
        | none => rw [hf] at hl; cases hl
        | some nx =>
          rw [hf] at hl
          have h1 := h a nx hf
          have h2 := loop_gt h kind m nx _ e h1.2 hl
          omega
      · cases hl
theorem bh_gt (v : List Cel) : ∀ d a e, bh v d a = some e → a < e ∧ e ≤ v.length
  | 0, a, e, h => by
    unfold bh at h
    cases hv : v[a]? with
    | none => rw [hv] at h; cases h
    | some c =>
      rw [hv] at h
      have hl := (List.getElem?_eq_some_iff.1 hv).1
      simp only at h
      split at h
      · simp at h; omega
      · cases h
  | d + 1, a, e, h => by
    rw [bh] at h
    cases hv : v[a]? with
    | none => rw [hv] at h; cases h
    | some c =>
      rw [hv] at h
      have hl := (List.getElem?_eq_some_iff.1 hv).1
      simp only at h
      split at h
      · split at h
        · have := loop_gt (bh_gt v d) c.kind _ _ _ e (by omega) h
          omega
        · simp at h; omega
      · cases h
end
section
open Go.Lib
/-- the code point p stands in the bytes B, of which there are n, from i on, in k bytes -/
def At (B : Nat → Nat) (n i p k : Nat) : Prop :=
  (k = 1 ∧ p < 128 ∧ i + 1 ≤ n ∧ B i = p) ∨
  (k = 2 ∧ 128 ≤ p ∧ p < 2048 ∧ i + 2 ≤ n ∧ B i = 192 + p / 64 ∧ B (i + 1) = 128 + p % 64) ∨
  (k = 3 ∧ 2048 ≤ p ∧ p < 65536 ∧ (p < 55296 ∨ 57344 ≤ p) ∧ i + 3 ≤ n ∧ B i = 224 + p / 4096 ∧ B (i + 1) = 128 + p / 64 % 64 ∧ B (i + 2) = 128 + p % 64) ∨
  (k = 4 ∧ 65536 ≤ p ∧ p ≤ 1114111 ∧ i + 4 ≤ n ∧ B i = 240 + p / 262144 ∧ B (i + 1) = 128 + p / 4096 % 64 ∧ B (i + 2) = 128 + p / 64 % 64 ∧ B (i + 3) = 128 + p % 64)
def dec (B : Nat → Nat) (n i : Nat) : Nat × Nat := decodeN (n - i) (B i) (B (i + 1)) (B (i + 2)) (B (i + 3))
set_option maxHeartbeats 4000000 in
theorem dec_of_at {B : Nat → Nat} {n i p k : Nat} (h : At B n i p k) : dec B n i = (p, k) := by
  unfold dec decodeN
  rcases h with ⟨rfl, h⟩ | ⟨rfl, h⟩ | ⟨rfl, h⟩ | ⟨rfl, h⟩
  · rw [if_pos (by omega)]
    rw [h.2.2]
  · rw [if_neg (by omega), if_pos (by omega), if_pos (by omega)]
    exact Prod.ext (by simp only; omega) rfl
  · rw [if_neg (by omega), if_neg (by omega), if_pos (by omega), if_pos (by omega)]
    exact Prod.ext (by simp only; omega) rfl
  · rw [if_neg (by omega), if_neg (by omega), if_neg (by omega), if_pos (by omega), if_pos (by omega)]
    exact Prod.ext (by simp only; omega) rfl
set_option maxHeartbeats 4000000 in
theorem at_of_dec {B : Nat → Nat} {n i : Nat} (hb : ∀ j, B j < 256) (hi : i < n) (h : ¬ ((dec B n i).1 = 65533 ∧ (dec B n i).2 < 3)) : At B n i (dec B n i).1 (dec B n i).2 := by
  have h0 := hb i
  have h1 := hb (i + 1)
  have h2 := hb (i + 2)
  have h3 := hb (i + 3)
  unfold dec decodeN at h ⊢
  split
  · exact .inl ⟨rfl, by assumption, by omega, rfl⟩
  · split
    · split
      · exact .inr (.inl ⟨rfl, by simp only; omega, by simp only; omega, by omega, by simp only; omega, by simp only; omega⟩)
      · rename_i g1 g2 g3
        rw [if_neg g1, if_pos g2, if_neg g3] at h
        exact absurd ⟨rfl, by simp⟩ h
    · split
      · split
        · exact .inr (.inr (.inl ⟨rfl, by simp only; omega, by simp only; omega, by simp only; omega, by omega, by simp only; omega, by simp only; omega, by simp only; omega⟩))
        · rename_i g1 g2 g3 g4
          rw [if_neg g1, if_neg g2, if_pos g3, if_neg g4] at h
          exact absurd ⟨rfl, by simp⟩ h
      · split
        · split
          · exact .inr (.inr (.inr ⟨rfl, by simp only; omega, by simp only; omega, by omega, by simp only; omega, by simp only; omega, by simp only; omega, by simp only; omega⟩))
          · rename_i g1 g2 g3 g4 g5
            rw [if_neg g1, if_neg g2, if_neg g3, if_pos g4, if_neg g5] at h
            exact absurd ⟨rfl, by simp⟩ h
        · rename_i g1 g2 g3 g4
          rw [if_neg g1, if_neg g2, if_neg g3, if_neg g4] at h
          exact absurd ⟨rfl, by simp⟩ h
def st (B : Nat → Nat) (e : Nat) : Nat :=
  if e < 2 then 0 else if B (e - 2) / 64 ≠ 2 then e - 2 else if e < 3 then 0 else if B (e - 3) / 64 ≠ 2 then e - 3 else if e < 4 then 0 else if B (e - 4) / 64 ≠ 2 then e - 4 else if e < 5 then 0 else e - 5
def decLast (B : Nat → Nat) (e : Nat) : Nat × Nat :=
  if e = 0 then (65533, 0) else if B (e - 1) < 128 then (B (e - 1), 1)
  else if st B e + (dec B e (st B e)).2 = e then dec B e (st B e) else (65533, 1)
theorem At.shorter {B : Nat → Nat} {n i p k : Nat} (h : At B n i p k) {m : Nat} (hm : i + k ≤ m) : At B m i p k := by
  rcases h with ⟨rfl, h⟩ | ⟨rfl, h⟩ | ⟨rfl, h⟩ | ⟨rfl, h⟩
  · exact .inl ⟨rfl, h.1, hm, h.2.2⟩
  · exact .inr (.inl ⟨rfl, h.1, h.2.1, hm, h.2.2.2⟩)
  · exact .inr (.inr (.inl ⟨rfl, h.1, h.2.1, h.2.2.1, hm, h.2.2.2.2⟩))
  · exact .inr (.inr (.inr ⟨rfl, h.1, h.2.1, hm, h.2.2.2⟩))
theorem At.end_le {B : Nat → Nat} {n i p k : Nat} (h : At B n i p k) : i + k ≤ n ∧ 1 ≤ k ∧ k ≤ 4 := by
  rcases h with ⟨rfl, h⟩ | ⟨rfl, h⟩ | ⟨rfl, h⟩ | ⟨rfl, h⟩ <;> omega
theorem At.not_err {B : Nat → Nat} {n i p k : Nat} (h : At B n i p k) : ¬ (p = 65533 ∧ k < 3) := by
  rcases h with ⟨rfl, h⟩ | ⟨rfl, h⟩ | ⟨rfl, h⟩ | ⟨rfl, h⟩ <;> omega
theorem decLast_of_at {B : Nat → Nat} {n i p k e : Nat} (h : At B n i p k) (he : i + k = e) : decLast B e = (p, k) := by
  have hd := dec_of_at (h.shorter (m := e) (by omega))
  unfold decLast
  have hk := h.end_le
  rw [if_neg (by omega)]
  rcases h with ⟨rfl, h⟩ | ⟨rfl, h⟩ | ⟨rfl, h⟩ | ⟨rfl, h⟩
  · have : e - 1 = i := by omega
    rw [this, if_pos (by omega), h.2.2]
  · have q1 : e - 1 = i + 1 := by omega
    have q2 : e - 2 = i := by omega
    have hs : st B e = i := by
      unfold st
      rw [if_neg (by omega), q2, if_pos (by omega)]
    rw [q1, if_neg (by omega), hs, hd, if_pos he]
  · have q1 : e - 1 = i + 2 := by omega
    have q2 : e - 2 = i + 1 := by omega
    have q3 : e - 3 = i := by omega
    have hs : st B e = i := by
      unfold st
      rw [if_neg (by omega), q2, if_neg (by omega), if_neg (by omega), q3, if_pos (by omega)]
    rw [q1, if_neg (by omega), hs, hd, if_pos he]
  · have q1 : e - 1 = i + 3 := by omega
    have q2 : e - 2 = i + 2 := by omega
    have q3 : e - 3 = i + 1 := by omega
    have q4 : e - 4 = i := by omega
    have hs : st B e = i := by
      unfold st
      rw [if_neg (by omega), q2, if_neg (by omega), if_neg (by omega), q3, if_neg (by omega), if_neg (by omega), q4, if_pos (by omega)]
    rw [q1, if_neg (by omega), hs, hd, if_pos he]
theorem st_lt {B : Nat → Nat} {e : Nat} (h : 0 < e) : st B e < e := by
  unfold st
  repeat' split
  all_goals omega
theorem at_of_decLast {B : Nat → Nat} {e : Nat} (hb : ∀ j, B j < 256) (he : 0 < e) (h : ¬ ((decLast B e).1 = 65533 ∧ (decLast B e).2 < 3)) :
    At B e (e - (decLast B e).2) (decLast B e).1 (decLast B e).2 := by
  unfold decLast at h ⊢
  rw [if_neg (by omega)] at h ⊢
  split
  · rename_i g
    exact .inl ⟨rfl, g, by omega, rfl⟩
  · rename_i g
    rw [if_neg g] at h
    split
    · rename_i g2
      rw [if_pos g2] at h
      have := at_of_dec hb (st_lt he) h
      rwa [show e - (dec B e (st B e)).2 = st B e by omega]
    · rename_i g2
      rw [if_neg g2] at h
      exact absurd ⟨rfl, by simp⟩ h

def byt (s : ByteArray) (j : Nat) : Nat := (s.get! j).toNat
theorem byt_lt (s : ByteArray) (j : Nat) : byt s j < 256 := UInt8.toNat_lt _
theorem decodeN_congr {n b0 b1 b2 b3 c1 c2 c3 : Nat} (h1 : 1 < n → b1 = c1) (h2 : 2 < n → b2 = c2) (h3 : 3 < n → b3 = c3) : decodeN n b0 b1 b2 b3 = decodeN n b0 c1 c2 c3 := by
  by_cases g1 : 1 < n
  · rw [h1 g1]
    by_cases g2 : 2 < n
    · rw [h2 g2]
      by_cases g3 : 3 < n
      · rw [h3 g3]
      · simp [decodeN, g3]
    · have g3 : ¬ 3 < n := by omega
      simp [decodeN, g2, g3]
  · have g2 : ¬ 2 < n := by omega
    have g3 : ¬ 3 < n := by omega
    simp [decodeN, g1, g2, g3]
theorem byt_data (s : ByteArray) (j : Nat) : byt s j = (s.data.toList.getD j 0).toNat := by
  unfold byt
  congr 1
  cases s with
  | mk d =>
    simp only [ByteArray.get!, List.getD_eq_getElem?_getD, Array.getElem?_toList]
    by_cases h : j < d.size
    · simp [h]
    · simp [h]
      rfl
theorem decode_dec (s : ByteArray) (i : Nat) : Utf8.decode s i = dec (byt s) s.size i := by rw [decode_at]; rfl
theorem size_data (s : ByteArray) : s.data.toList.length = s.size := (Lib.size_eq s).symm
theorem extract_list (s : ByteArray) (a b : Nat) : (s.extract a b).data.toList = (s.data.toList.take b).drop a := by
  rw [ByteArray.data_extract, Array.toList_extract]
  simp [List.drop_take]
theorem byt_drop (s : ByteArray) (a j : Nat) : byt (s.extract a s.size) j = byt s (a + j) := by
  rw [byt_data, byt_data, extract_list]
  simp only [List.getD_eq_getElem?_getD, List.getElem?_drop]
  congr 2
  rw [List.take_of_length_le (by rw [size_data]; exact Nat.le_refl _)]
theorem decodeGo_dec (s : ByteArray) (a : Nat) (h : a < s.size) : Lib.decodeGo (s.extract a s.size) = dec (byt s) s.size a := by
  have hz : (s.extract a s.size).size = s.size - a := by rw [← size_data, extract_list]; simp
  unfold Lib.decodeGo
  rw [if_neg (by omega), decode_dec]
  unfold dec
  rw [hz, byt_drop, byt_drop, byt_drop, byt_drop]
  rfl
theorem decodeLast_dec (s : ByteArray) (e : Nat) (h : e ≤ s.size) : Lib.decodeLastL (s.extract 0 e).data.toList = decLast (byt s) e := by
  rw [extract_list, List.drop_zero]
  have hl : (s.data.toList.take e).length = e := by rw [List.length_take, size_data]; omega
  have hg : ∀ j, j < e → ((s.data.toList.take e).getD j 0).toNat = byt s j := by
    intro j hj
    rw [byt_data]
    simp [List.getD_eq_getElem?_getD, hj]
  generalize hL : s.data.toList.take e = l at hl hg ⊢
  unfold Lib.decodeLastL decLast
  by_cases h0 : e = 0
  · subst h0
    rw [if_pos rfl, if_pos (List.eq_nil_of_length_eq_zero hl)]
    rfl
  · have hne : l ≠ [] := by rintro rfl; simp at hl; omega
    rw [if_neg hne, if_neg h0, hl, hg (e - 1) (by omega)]
    by_cases h1 : byt s (e - 1) < 128
    · rw [if_pos h1, if_pos h1]
    · rw [if_neg h1, if_neg h1]
      have rs : ∀ j, j < e → (Lib.runeStartB (l.getD j 0) = true ↔ byt s j / 64 ≠ 2) := by
        intro j hj
        unfold Lib.runeStartB
        rw [hg j hj]
        simp
      have hs : Lib.lastStart l = st (byt s) e := by
        unfold Lib.lastStart st
        simp only [hl]
        by_cases e2 : e < 2
        · rw [if_pos e2, if_pos e2]
        · rw [if_neg e2, if_neg e2]
          by_cases q2 : byt s (e - 2) / 64 ≠ 2
          · rw [if_pos ((rs _ (by omega)).2 q2), if_pos q2]
          · rw [if_neg (fun h => q2 ((rs _ (by omega)).1 h)), if_neg q2]
            by_cases e3 : e < 3
            · rw [if_pos e3, if_pos e3]
            · rw [if_neg e3, if_neg e3]
              by_cases q3 : byt s (e - 3) / 64 ≠ 2
              · rw [if_pos ((rs _ (by omega)).2 q3), if_pos q3]
              · rw [if_neg (fun h => q3 ((rs _ (by omega)).1 h)), if_neg q3]
                by_cases e4 : e < 4
                · rw [if_pos e4, if_pos e4]
                · rw [if_neg e4, if_neg e4]
                  by_cases q4 : byt s (e - 4) / 64 ≠ 2
                  · rw [if_pos ((rs _ (by omega)).2 q4), if_pos q4]
                  · rw [if_neg (fun h => q4 ((rs _ (by omega)).1 h)), if_neg q4]
      have hd : Lib.decodeL (l.drop (Lib.lastStart l)) = dec (byt s) e (st (byt s) e) := by
        rw [hs]
        have hlt := st_lt (B := byt s) (e := e) (by omega)
        generalize st (byt s) e = a at hlt ⊢
        unfold Lib.decodeL
        rw [decode_dec]
        have hz : (ByteArray.mk (l.drop a).toArray).size = e - a := by rw [← size_data]; simp [hl]
        have hb : ∀ j, a + j < e → byt ⟨(l.drop a).toArray⟩ j = byt s (a + j) := by
          intro j hj
          rw [byt_data, ← hg _ hj]
          simp [List.getD_eq_getElem?_getD]
        unfold dec
        rw [hz, Nat.sub_zero]
        have := hb 0 (by omega)
        simp only [Nat.add_zero, Nat.zero_add] at this ⊢
        rw [this]
        exact decodeN_congr (fun g => hb 1 (by omega)) (fun g => hb 2 (by omega)) (fun g => hb 3 (by omega))
      rw [hs] at hd
      simp only [hs]
      rw [hd]
      rfl
end
section
open Go.RowKit Go.Lib
def told (d : Nat × Nat) : Nat × Nat × Nat := if d.1 = 65533 ∧ d.2 < 3 then (0, 0, 10) else (d.1, d.2, 0)
def nextV (s : ByteArray) (a : Int) : Nat × Nat × Nat := if a < 0 ∨ (s.size : Int) ≤ a then (0, 0, 2) else told (dec (byt s) s.size a.toNat)
def backV (s : ByteArray) (a : Int) : Nat × Nat × Nat := if a < 1 ∨ (s.size : Int) < a then (0, 0, 2) else told (decLast (byt s) a.toNat)
theorem dec_bd (B : Nat → Nat) (hb : ∀ j, B j < 256) (n i : Nat) : (dec B n i).1 ≤ 1114111 ∧ 1 ≤ (dec B n i).2 ∧ (dec B n i).2 ≤ 4 := by
  refine ⟨Lib.decodeN_rune_le _ _ _ _ _ (hb _), Lib.decodeN_ge1 _ _ _ _ _, ?_⟩
  unfold dec decodeN
  repeat' split
  all_goals simp
theorem decLast_bd (B : Nat → Nat) (hb : ∀ j, B j < 256) (e : Nat) : (decLast B e).1 ≤ 1114111 ∧ (decLast B e).2 ≤ 4 := by
  unfold decLast
  have := dec_bd B hb e (st B e)
  have := hb (e - 1)
  repeat' split
  all_goals (try simp only)
  all_goals omega
abbrev Tabs (w : World) : Prop := Lib.Utf8Tabs 0 1 w
theorem Tabs.below {w w' : World} (h : Tabs w) (hb : Below w.heap.size w w') : Tabs w' := Utf8Tabs_below h hb
end
section
open Go.RowKit
theorem told_ok {d : Nat × Nat} {p n : Nat} (h : told d = (p, n, 0)) : d = (p, n) ∧ ¬ (p = 65533 ∧ n < 3) := by
  unfold told at h
  split at h
  · simp at h
  · rename_i g
    simp only [Prod.mk.injEq] at h
    obtain ⟨rfl, rfl, _⟩ := h
    exact ⟨rfl, g⟩
theorem told_of {p n : Nat} (h : ¬ (p = 65533 ∧ n < 3)) : told (p, n) = (p, n, 0) := by
  unfold told
  rw [if_neg h]
theorem at_of_next {s : ByteArray} {a : Int} {p n : Nat} (h : nextV s a = (p, n, 0)) : 0 ≤ a ∧ a < s.size ∧ At (byt s) s.size a.toNat p n := by
  unfold nextV at h
  split at h
  · simp at h
  · obtain ⟨h1, h2⟩ := told_ok h
    refine ⟨by omega, by omega, ?_⟩
    have := at_of_dec (B := byt s) (n := s.size) (i := a.toNat) (byt_lt s) (by omega) (by rw [h1]; exact h2)
    rwa [h1] at this
theorem next_of_at {s : ByteArray} {i p n : Nat} (h : At (byt s) s.size i p n) : nextV s (i : Int) = (p, n, 0) := by
  have := h.end_le
  unfold nextV
  rw [if_neg (by omega), show (i : Int).toNat = i by omega, dec_of_at h]
  exact told_of h.not_err
theorem at_of_back {s : ByteArray} {a : Int} {p n : Nat} (h : backV s a = (p, n, 0)) : 1 ≤ a ∧ a ≤ s.size ∧ (n : Int) ≤ a ∧ At (byt s) s.size (a.toNat - n) p n := by
  unfold backV at h
  split at h
  · simp at h
  · obtain ⟨h1, h2⟩ := told_ok h
    have := at_of_decLast (B := byt s) (e := a.toNat) (byt_lt s) (by omega) (by rw [h1]; exact h2)
    rw [h1] at this
    have hl := this.end_le
    simp only at this hl
    refine ⟨by omega, by omega, by omega, ?_⟩
    rcases this with ⟨e, h⟩ | ⟨e, h⟩ | ⟨e, h⟩ | ⟨e, h⟩
    · exact .inl ⟨e, h.1, by omega, h.2.2⟩
    · exact .inr (.inl ⟨e, h.1, h.2.1, by omega, h.2.2.2⟩)
    · exact .inr (.inr (.inl ⟨e, h.1, h.2.1, h.2.2.1, by omega, h.2.2.2.2⟩))
    · exact .inr (.inr (.inr ⟨e, h.1, h.2.1, by omega, h.2.2.2⟩))
theorem back_of_at {s : ByteArray} {i p n : Nat} (h : At (byt s) s.size i p n) : backV s ((i : Int) + n) = (p, n, 0) := by
  have := h.end_le
  unfold backV
  rw [if_neg (by omega), show ((i : Int) + n).toNat = i + n by omega, decLast_of_at h rfl]
  exact told_of h.not_err
end
section
open Go.RowKit

def isPoint (n : Int) : Bool := decide (0 ≤ n) && decide (n ≤ 1114111) && (decide (n < 55296) || decide (57343 < n))
theorem is_any (n : Int) (w : World) : Calls Tryz.prog 127 #[.int .i64 n] w fun e w' => e = .returned (.bool (isPoint n)) ∧ w' = w := by
  go_enter Tryz.func127, Tryz.ntmps127
  by_cases h1 : 0 ≤ n
  · by_cases h2 : n ≤ 1114111
    · by_cases h3 : n < 55296
      · go_wp2
        go_ret
        exact ⟨ret_bool (by simp [isPoint] <;> omega), rfl⟩
      · have h4 : 55296 ≤ n := by omega
        by_cases h5 : 57343 < n
        · go_wp2
          go_ret
          exact ⟨ret_bool (by simp [isPoint] <;> omega), rfl⟩
        · go_wp2
          go_ret
          exact ⟨ret_bool (by simp [isPoint] <;> omega), rfl⟩
    · go_wp2
      go_ret
      exact ⟨ret_bool (by simp [isPoint] <;> omega), rfl⟩
  · go_wp2
    go_ret
    exact ⟨ret_bool (by simp [isPoint] <;> omega), rfl⟩

theorem bytes_any (n : Int) (h0 : 0 ≤ n) (h1 : n ≤ 1114111) (h2 : n < 55296 ∨ 57343 < n) (w : World) :
    Calls Tryz.prog 128 #[.int .i64 n] w fun e w' => ∃ arr : Array Value, e = .returned (.slice (some ⟨w.heap.size, 0, none⟩) arr.size arr.size) ∧ arr.toList = Lib.runeCells n ∧ w' = w.alloc (.cells arr 5) := by
  go_enter Tryz.func128, Tryz.ntmps128
  by_cases c1 : n < 128
  · go_wp2
    go_ret
    exact ⟨_, rfl, by simp [Lib.runeCells, Lib.encodeRuneZ_one h0 (by omega)], rfl⟩
  · by_cases c2 : n < 2048
    · go_wp2
      go_ret
      exact ⟨_, rfl, by simp [Lib.runeCells, Lib.encodeRuneZ_two (show 128 ≤ n by omega) (by omega)], rfl⟩
    · by_cases c3 : n < 65536
      · go_wp2
        go_ret
        exact ⟨_, rfl, by simp [Lib.runeCells, Lib.encodeRuneZ_three (r := n) (by omega)], rfl⟩
      · go_wp2
        go_ret
        exact ⟨_, rfl, by simp [Lib.runeCells, Lib.encodeRuneZ_four (show 65536 ≤ n by omega) h1], rfl⟩
end
section
open Go.Lib
theorem decodeL_dec (s : ByteArray) (i : Nat) : Lib.decodeL (s.data.toList.drop i) = dec (byt s) s.size i := by
  unfold Lib.decodeL
  rw [decode_dec]
  have hz : (ByteArray.mk (s.data.toList.drop i).toArray).size = s.size - i := by rw [← size_data]; simp
  have hb : ∀ j, byt ⟨(s.data.toList.drop i).toArray⟩ j = byt s (i + j) := by
    intro j
    rw [byt_data, byt_data]
    simp [List.getD_eq_getElem?_getD]
  unfold dec
  rw [hz, Nat.sub_zero]
  have := hb 0
  simp only [Nat.add_zero, Nat.zero_add] at this ⊢
  rw [this]
  exact decodeN_congr (fun _ => hb 1) (fun _ => hb 2) (fun _ => hb 3)
/-- from place i on: is all decoded? -/
def valids (B : Nat → Nat) (n : Nat) : Nat → Nat → Bool
  | 0, _ => true
  | f + 1, i => if n ≤ i then true else if (dec B n i).1 = 65533 ∧ (dec B n i).2 = 1 then false else valids B n f (i + (dec B n i).2)
theorem validGo_dec (s : ByteArray) : ∀ f i, Lib.validGoD f (s.data.toList.drop i) = valids (byt s) s.size f i
  | 0, _ => rfl
  | f + 1, i => by
    unfold Lib.validGoD valids
    by_cases h : s.size ≤ i
    · rw [if_pos h, if_pos (List.drop_of_length_le (by rw [size_data]; exact h))]
    · have hne : s.data.toList.drop i ≠ [] := by
        intro e
        have := congrArg List.length e
        rw [List.length_drop, size_data] at this
        simp at this
        omega
      rw [if_neg h, if_neg hne, decodeL_dec s i, List.drop_drop]
      split
      · rfl
      · exact validGo_dec s f _
theorem validD_dec (s : ByteArray) : Lib.validD s.data.toList = valids (byt s) s.size s.size 0 := by
  unfold Lib.validD
  rw [size_data]
  exact validGo_dec s s.size 0
/-- code points, one behind another: where each begins, which it is -/
def Chain (B : Nat → Nat) (n m : Nat) (P X : Nat → Nat) : Prop := P 0 = 0 ∧ P m = n ∧ ∀ i < m, P i < P (i + 1) ∧ At B n (P i) (X i) (P (i + 1) - P i)
theorem Chain.dec {B : Nat → Nat} {n m : Nat} {P X : Nat → Nat} (h : Chain B n m P X) {i : Nat} (hi : i < m) : dec B n (P i) = (X i, P (i + 1) - P i) := dec_of_at (h.2.2 i hi).2
theorem Chain.mono {B : Nat → Nat} {n m : Nat} {P X : Nat → Nat} (h : Chain B n m P X) : ∀ {i j : Nat}, i ≤ j → j ≤ m → P i ≤ P j := by
  intro i j hij
  induction j with
  | zero => intro _; obtain rfl : i = 0 := by omega
            exact Nat.le_refl _
  | succ j ih =>
    intro hj
    by_cases e : i = j + 1
    · subst e; exact Nat.le_refl _
    · have := ih (by omega) (by omega)
      have := (h.2.2 j (by omega)).1
      omega
theorem Chain.lt {B : Nat → Nat} {n m : Nat} {P X : Nat → Nat} (h : Chain B n m P X) {i : Nat} (hi : i < m) : P i < n := by
  have := (h.2.2 i hi).1
  have := h.mono (i := i + 1) (j := m) (by omega) (by omega)
  rw [h.2.1] at this
  omega
theorem Chain.ge {B : Nat → Nat} {n m : Nat} {P X : Nat → Nat} (h : Chain B n m P X) : ∀ {i : Nat}, i ≤ m → i ≤ P i := by
  intro i
  induction i with
  | zero => intro _; omega
  | succ i ih =>
    intro hi
    have := ih (by omega)
    have := (h.2.2 i (by omega)).1
    omega
theorem Chain.valids {B : Nat → Nat} {n m : Nat} {P X : Nat → Nat} (h : Chain B n m P X) : ∀ f i, i ≤ m → valids B n f (P i) = true
  | 0, _, _ => rfl
  | f + 1, i, hi => by
    unfold Proofs.YtcgioepbooafcaaGreatDoor.valids
    by_cases e : i = m
    · subst e
      rw [if_pos (by rw [h.2.1]; exact Nat.le_refl _)]
    · have hl : i < m := by omega
      have h1 := h.lt hl
      have h2 := (h.2.2 i hl).2.not_err
      have h3 := (h.2.2 i hl).1
      rw [if_neg (by omega), h.dec hl]
      simp only
      rw [if_neg (by omega), show P i + (P (i + 1) - P i) = P (i + 1) by omega]
      exact h.valids f (i + 1) (by omega)
theorem Chain.count {s : ByteArray} {m : Nat} {P X : Nat → Nat} (h : Chain (byt s) s.size m P X) : ∀ f i, i ≤ m → s.size ≤ P i + f → Lib.runeCountFrom s f (P i) = m - i
  | 0, i, hi, hf => by
    unfold Lib.runeCountFrom
    have : i = m := by
      rcases Nat.lt_or_ge i m with g | g
      · have := h.lt g; omega
      · omega
    omega
  | f + 1, i, hi, hf => by
    unfold Lib.runeCountFrom
    by_cases e : i = m
    · subst e
      rw [if_neg (by rw [h.2.1]; omega)]
      omega
    · have hl : i < m := by omega
      have h1 := h.lt hl
      have h3 := (h.2.2 i hl).1
      rw [if_pos h1, decode_dec, h.dec hl]
      simp only
      rw [show P i + (P (i + 1) - P i) = P (i + 1) by omega, h.count f (i + 1) (by omega) (by omega)]
      omega
theorem Chain.runeCount {s : ByteArray} {m : Nat} {P X : Nat → Nat} (h : Chain (byt s) s.size m P X) : Lib.runeCount s = m := by
  unfold Lib.runeCount
  have := h.count s.size 0 (by omega) (by omega)
  rw [h.1] at this
  exact this
theorem Chain.validD {s : ByteArray} {m : Nat} {P X : Nat → Nat} (h : Chain (byt s) s.size m P X) : Lib.validD s.data.toList = true := by
  rw [validD_dec]
  have := h.valids s.size 0 (by omega)
  rwa [h.1] at this
/-- what is valid is a chain -/
theorem chain_of {B : Nat → Nat} {n : Nat} (hb : ∀ j, B j < 256) : ∀ (f i : Nat), n ≤ i + f → i ≤ n → valids B n f i = true → ∃ (m : Nat) (P X : Nat → Nat), P 0 = i ∧ P m = n ∧ ∀ k < m, P k < P (k + 1) ∧ At B n (P k) (X k) (P (k + 1) - P k)
  | 0, i, h1, h2, _ => ⟨0, fun _ => i, fun _ => 0, rfl, by simp; omega, by intro k hk; omega⟩
  | f + 1, i, h1, h2, hv => by
    unfold Proofs.YtcgioepbooafcaaGreatDoor.valids at hv
    by_cases e : n ≤ i
    · exact ⟨0, fun _ => i, fun _ => 0, rfl, by simp; omega, by intro k hk; omega⟩
    · rw [if_neg e] at hv
      split at hv
      · cases hv
      · rename_i g
        have hd := Lib.decodeN_ge1 (n - i) (B i) (B (i + 1)) (B (i + 2)) (B (i + 3))
        have g2 : ¬ ((dec B n i).1 = 65533 ∧ (dec B n i).2 < 3) := by
          intro ⟨q1, q2⟩
          have : (dec B n i).2 = 1 ∨ (dec B n i).2 = 2 := by unfold dec at q2 ⊢; omega
          rcases this with q3 | q3
          · exact g ⟨q1, q3⟩
          · unfold dec decodeN at q1 q3
            repeat' split at q1
            all_goals (first | (simp only at q3; omega) | (simp_all; done) | (simp_all; omega))
        have ha := at_of_dec hb (by omega) g2
        have hl := ha.end_le
        obtain ⟨m, P, X, p0, pm, hc⟩ := chain_of hb f (i + (dec B n i).2) (by omega) (by omega) hv
        refine ⟨m + 1, fun k => match k with | 0 => i | k + 1 => P k, fun k => match k with | 0 => (dec B n i).1 | k + 1 => X k, rfl, pm, ?_⟩
        intro k hk
        cases k with
        | zero =>
          simp only [p0]
          rw [show i + (dec B n i).2 - i = (dec B n i).2 by omega]
          exact ⟨by omega, ha⟩
        | succ k => exact hc k (by omega)
theorem chain_valid {s : ByteArray} (h : Lib.validD s.data.toList = true) : ∃ m P X, Chain (byt s) s.size m P X := by
  rw [validD_dec] at h
  exact chain_of (byt_lt s) s.size 0 (by omega) (by omega) h
end
section
open Go.RowKit Go.Lib
theorem byt_get (s : ByteArray) (i : Nat) (h : i < s.size) : byt s i = s[i].toNat := by
  unfold byt
  congr 1
  show s.get! i = _
  simp [ByteArray.get!, getElem!_pos, h]
  rfl
theorem isPoint_iff {x : Int} (h : isPoint x = true) : 0 ≤ x ∧ x ≤ 1114111 ∧ (x < 55296 ∨ 57343 < x) := by
  simp only [isPoint, Bool.and_eq_true, Bool.or_eq_true, decide_eq_true_eq] at h
  omega
theorem byt_str (L : List Int) (j : Nat) (h : 0 ≤ L.getD j 0 ∧ L.getD j 0 < 256) : byt (strOfNums L) j = (L.getD j 0).toNat := by
  rw [byt_data, strOfNums_data]
  simp only [List.getD_eq_getElem?_getD, List.getElem?_map] at h ⊢
  cases e : L[j]? with
  | none => simp
  | some x =>
    rw [e] at h
    simp only [Option.getD_some, Option.map_some] at h ⊢
    simp
    omega
set_option maxHeartbeats 4000000 in
theorem at_list (pre post : List Int) (x : Int) (hx : isPoint x = true) :
    At (byt (strOfNums (pre ++ encodeRuneZ x ++ post))) (strOfNums (pre ++ encodeRuneZ x ++ post)).size pre.length x.toNat (encodeRuneZ x).length := by
  obtain ⟨h0, h1, h2⟩ := isPoint_iff hx
  clear hx
  obtain ⟨k, rfl⟩ : ∃ k : Nat, x = k := ⟨x.toNat, by omega⟩
  rw [Int.toNat_natCast]
  have hz : (strOfNums (pre ++ encodeRuneZ (k : Int) ++ post)).size = pre.length + (encodeRuneZ (k : Int)).length + post.length := by
    rw [strOfNums_size]; simp; omega
  have hg : ∀ t, t < (encodeRuneZ (k : Int)).length → (pre ++ encodeRuneZ (k : Int) ++ post).getD (pre.length + t) 0 = (encodeRuneZ (k : Int)).getD t 0 := by
    intro t ht
    simp only [List.getD_eq_getElem?_getD]
    rw [List.getElem?_append_left (by simp; omega), List.getElem?_append_right (by omega), show pre.length + t - pre.length = t by omega]
  generalize hS : pre ++ encodeRuneZ (k : Int) ++ post = L at hz hg ⊢
  have hb : ∀ t, t < (encodeRuneZ (k : Int)).length → 0 ≤ (encodeRuneZ (k : Int)).getD t 0 ∧ (encodeRuneZ (k : Int)).getD t 0 < 256 → byt (strOfNums L) (pre.length + t) = ((encodeRuneZ (k : Int)).getD t 0).toNat := by
    intro t ht hr
    rw [byt_str L _ (by rw [hg t ht]; exact hr), hg t ht]
  have hb0 := hb 0
  have hb1 := hb 1
  have hb2 := hb 2
  have hb3 := hb 3
  clear hb hg
  by_cases c1 : (k : Int) < 128
  · rw [encodeRuneZ_one h0 (by omega)] at hz hb0 ⊢
    simp at hz hb0
    exact .inl ⟨rfl, by omega, by omega, by omega⟩
  · by_cases c2 : (k : Int) < 2048
    · rw [encodeRuneZ_two (by omega) (by omega)] at hz hb0 hb1 ⊢
      simp at hz hb0 hb1
      refine .inr (.inl ⟨rfl, by omega, by omega, by omega, ?_, ?_⟩)
      · rw [hb0 (by omega) (by omega)]; omega
      · rw [hb1 (by omega) (by omega)]; omega
    · by_cases c3 : (k : Int) < 65536
      · rw [encodeRuneZ_three (by omega)] at hz hb0 hb1 hb2 ⊢
        simp at hz hb0 hb1 hb2
        refine .inr (.inr (.inl ⟨rfl, by omega, by omega, by omega, by omega, ?_, ?_, ?_⟩))
        · rw [hb0 (by omega) (by omega)]; omega
        · rw [hb1 (by omega) (by omega)]; omega
        · rw [hb2 (by omega) (by omega)]; omega
      · rw [encodeRuneZ_four (by omega) h1] at hz hb0 hb1 hb2 hb3 ⊢
        simp at hz hb0 hb1 hb2 hb3
        refine .inr (.inr (.inr ⟨rfl, by omega, by omega, by omega, ?_, ?_, ?_, ?_⟩))
        · rw [hb0 (by omega) (by omega)]; omega
        · rw [hb1 (by omega) (by omega)]; omega
        · rw [hb2 (by omega) (by omega)]; omega
        · rw [hb3 (by omega) (by omega)]; omega
theorem enc_ge (x : Int) : 1 ≤ (encodeRuneZ x).length ∧ (encodeRuneZ x).length ≤ 4 := by
  unfold encodeRuneZ
  repeat' split
  all_goals simp
end
section
open Go.RowKit Go.Lib
def num0 (B : Nat → Nat) (i k : Nat) : Nat := if k = 2 then B i % 32 else if k = 3 then B i % 16 else if k = 4 then B i % 8 else B i
def numF (B : Nat → Nat) (i k : Nat) : Nat → Nat
  | 0 => num0 B i k
  | t + 1 => 64 * numF B i k t + B (i + (t + 1)) % 64
theorem num0_lt {B : Nat → Nat} (hb : ∀ j, B j < 256) (i k : Nat) : num0 B i k ≤ 255 := by
  have := hb i
  unfold num0
  repeat' split
  all_goals omega
theorem numF_lt {B : Nat → Nat} (hb : ∀ j, B j < 256) (i k : Nat) : ∀ t, t ≤ 3 → numF B i k t ≤ 67108863
  | 0, _ => by have := num0_lt hb i k; unfold numF; omega
  | 1, _ => by have := num0_lt hb i k; unfold numF numF; omega
  | 2, _ => by have := num0_lt hb i k; unfold numF numF numF; omega
  | 3, _ => by have := num0_lt hb i k; unfold numF numF numF numF; omega
  | t + 4, h => by omega
theorem num_rem {B : Nat → Nat} (hb : ∀ j, B j < 256) (i k : Nat) : ∀ t, t ≤ 2 → numF B i k t ≤ 1048575
  | 0, _ => by have := num0_lt hb i k; unfold numF; omega
  | 1, _ => by have := num0_lt hb i k; unfold numF numF; omega
  | 2, _ => by have := num0_lt hb i k; unfold numF numF numF; omega
  | t + 3, h => by omega
theorem num_at {B : Nat → Nat} {n i p k : Nat} (h : At B n i p k) : numF B i k (k - 1) = p := by
  rcases h with ⟨rfl, h⟩ | ⟨rfl, h⟩ | ⟨rfl, h⟩ | ⟨rfl, h⟩
  · show num0 B i 1 = p
    unfold num0
    simp
    omega
  · show 64 * num0 B i 2 + B (i + 1) % 64 = p
    unfold num0
    simp
    omega
  · show 64 * (64 * num0 B i 3 + B (i + 1) % 64) + B (i + 2) % 64 = p
    unfold num0
    simp
    omega
  · show 64 * (64 * (64 * num0 B i 4 + B (i + 1) % 64) + B (i + 2) % 64) + B (i + 3) % 64 = p
    unfold num0
    simp
    omega
theorem lit_1 {a b : Nat} (h : a = b) : Value.int .i64 (a : Int) = .int .i64 (b : Int) := by rw [h]
set_option maxHeartbeats 4000000 in
theorem number_1 (s : ByteArray) (i : Nat) (w : World) (hik : i + 1 ≤ s.size) :
    Calls Tryz.prog 126 #[.string s, .int .i64 i, .int .i64 1] w fun e w' => e = .returned (.int .i64 (numF (byt s) i 1 0 : Nat)) ∧ w = w' := by
  have hi' : i < s.size := by omega
  have hi : (i : Int) < s.size := by omega
  have hb0 := byt_get s i hi'
  have hlt0 := UInt8.toNat_lt s[i]
  have hbl := byt_lt s
  have h0 : numF (byt s) i 1 0 = s[i].toNat := by show num0 _ _ _ = _; unfold num0; simp [hb0]
  have HZ := Lib.hid h0
  clear h0 hb0
  go_enter Tryz.func126, Tryz.ntmps126
  go_wp2
  go_loop [7, 8] (fun n j => ∃ t : Nat, t + 1 ≤ 1 ∧ j = .int .i64 ((t : Int) + 1) ∧ n = .int .i64 (numF (byt s) i 1 t : Nat)) (fun _ j => 1 - (RowKit.intOf j).toNat)
  case atStart => exact ⟨0, by omega, rfl, by first | (rw [HZ.out]; done) | (rw [HZ.out]; go_num)⟩
  case round =>
      obtain ⟨t, ht, rfl, rfl⟩ := hrel
      obtain rfl : t = 0 := by omega
      go_wp2
      go_ret
      exact ⟨rfl, rfl⟩
set_option maxHeartbeats 4000000 in
theorem number_2 (s : ByteArray) (i : Nat) (w : World) (hs : s.size ≤ maxLen) (hik : i + 2 ≤ s.size) :
    Calls Tryz.prog 126 #[.string s, .int .i64 i, .int .i64 2] w fun e w' => e = .returned (.int .i64 (numF (byt s) i 2 1 : Nat)) ∧ w = w' := by
  unfold maxLen at hs
  have hi' : i < s.size := by omega
  have hi : (i : Int) < s.size := by omega
  have hb0 := byt_get s i hi'
  have hlt0 := UInt8.toNat_lt s[i]
  have hbl := byt_lt s
  have h0 : numF (byt s) i 2 0 = s[i].toNat % 32 := by show num0 _ _ _ = _; unfold num0; simp [hb0]
  have HZ := Lib.hid h0
  clear h0 hb0
  go_enter Tryz.func126, Tryz.ntmps126
  go_wp2
  go_loop [7, 8] (fun n j => ∃ t : Nat, t + 1 ≤ 2 ∧ j = .int .i64 ((t : Int) + 1) ∧ n = .int .i64 (numF (byt s) i 2 t : Nat)) (fun _ j => 2 - (RowKit.intOf j).toNat)
  case atStart => exact ⟨0, by omega, rfl, by first | (rw [HZ.out]; done) | (rw [HZ.out]; go_num)⟩
  case round =>
      obtain ⟨t, ht, rfl, rfl⟩ := hrel
      by_cases hlt : t + 1 < 2
      · have ht2 : t + 1 ≤ 1 := by omega
        have hix : i + (t + 1) < s.size := by omega
        have hb1 := byt_get s _ hix
        have hr := num_rem hbl i 2 t (by omega)
        have hlt3 := UInt8.toNat_lt s[i + (t + 1)]
        have hnx : numF (byt s) i 2 (t + 1) = 64 * numF (byt s) i 2 t + s[i + (t + 1)].toNat % 64 := by rw [numF, hb1]
        obtain ⟨x, hx⟩ : ∃ x, numF (byt s) i 2 t = x := ⟨_, rfl⟩
        rw [hx] at hnx hr
        rw [hx]
        have HN := Lib.hid hnx
        have hg : ((t : Int) + 1) < 2 := by omega
        have hg2 : (i : Int) + (t + 1) < s.size := by omega
        clear hnx hx hb1 hbl
        go_wp2
        go_round
        case rel => exact ⟨t + 1, by omega, by go_num, by rw [HN.out]; go_num⟩
        case measure => simp [RowKit.intOf]; omega
      · obtain rfl : t = 1 := by omega
        go_wp2
        go_ret
        exact ⟨rfl, rfl⟩
set_option maxHeartbeats 4000000 in
theorem number_3 (s : ByteArray) (i : Nat) (w : World) (hs : s.size ≤ maxLen) (hik : i + 3 ≤ s.size) :
    Calls Tryz.prog 126 #[.string s, .int .i64 i, .int .i64 3] w fun e w' => e = .returned (.int .i64 (numF (byt s) i 3 2 : Nat)) ∧ w = w' := by
  unfold maxLen at hs
  have hi' : i < s.size := by omega
  have hi : (i : Int) < s.size := by omega
  have hb0 := byt_get s i hi'
  have hlt0 := UInt8.toNat_lt s[i]
  have hbl := byt_lt s
  have h0 : numF (byt s) i 3 0 = s[i].toNat % 16 := by show num0 _ _ _ = _; unfold num0; simp [hb0]
  have HZ := Lib.hid h0
  clear h0 hb0
  go_enter Tryz.func126, Tryz.ntmps126
  go_wp2
  go_loop [7, 8] (fun n j => ∃ t : Nat, t + 1 ≤ 3 ∧ j = .int .i64 ((t : Int) + 1) ∧ n = .int .i64 (numF (byt s) i 3 t : Nat)) (fun _ j => 3 - (RowKit.intOf j).toNat)
  case atStart => exact ⟨0, by omega, rfl, by first | (rw [HZ.out]; done) | (rw [HZ.out]; go_num)⟩
  case round =>
      obtain ⟨t, ht, rfl, rfl⟩ := hrel
      by_cases hlt : t + 1 < 3
      · have ht2 : t + 1 ≤ 2 := by omega
        have hix : i + (t + 1) < s.size := by omega
        have hb1 := byt_get s _ hix
        have hr := num_rem hbl i 3 t (by omega)
        have hlt3 := UInt8.toNat_lt s[i + (t + 1)]
        have hnx : numF (byt s) i 3 (t + 1) = 64 * numF (byt s) i 3 t + s[i + (t + 1)].toNat % 64 := by rw [numF, hb1]
        obtain ⟨x, hx⟩ : ∃ x, numF (byt s) i 3 t = x := ⟨_, rfl⟩
        rw [hx] at hnx hr
        rw [hx]
        have HN := Lib.hid hnx
        have hg : ((t : Int) + 1) < 3 := by omega
        have hg2 : (i : Int) + (t + 1) < s.size := by omega
        clear hnx hx hb1 hbl
        go_wp2
        go_round
        case rel => exact ⟨t + 1, by omega, by go_num, by rw [HN.out]; go_num⟩
        case measure => simp [RowKit.intOf]; omega
      · obtain rfl : t = 2 := by omega
        go_wp2
        go_ret
        exact ⟨rfl, rfl⟩
set_option maxHeartbeats 4000000 in
theorem number_4 (s : ByteArray) (i : Nat) (w : World) (hs : s.size ≤ maxLen) (hik : i + 4 ≤ s.size) :
    Calls Tryz.prog 126 #[.string s, .int .i64 i, .int .i64 4] w fun e w' => e = .returned (.int .i64 (numF (byt s) i 4 3 : Nat)) ∧ w = w' := by
  unfold maxLen at hs
  have hi' : i < s.size := by omega
  have hi : (i : Int) < s.size := by omega
  have hb0 := byt_get s i hi'
  have hlt0 := UInt8.toNat_lt s[i]
  have hbl := byt_lt s
  have h0 : numF (byt s) i 4 0 = s[i].toNat % 8 := by show num0 _ _ _ = _; unfold num0; simp [hb0]
  have HZ := Lib.hid h0
  clear h0 hb0
  go_enter Tryz.func126, Tryz.ntmps126
  go_wp2
  go_loop [7, 8] (fun n j => ∃ t : Nat, t + 1 ≤ 4 ∧ j = .int .i64 ((t : Int) + 1) ∧ n = .int .i64 (numF (byt s) i 4 t : Nat)) (fun _ j => 4 - (RowKit.intOf j).toNat)
  case atStart => exact ⟨0, by omega, rfl, by first | (rw [HZ.out]; done) | (rw [HZ.out]; go_num)⟩
  case round =>
      obtain ⟨t, ht, rfl, rfl⟩ := hrel
      by_cases hlt : t + 1 < 4
      · have ht2 : t + 1 ≤ 3 := by omega
        have hix : i + (t + 1) < s.size := by omega
        have hb1 := byt_get s _ hix
        have hr := num_rem hbl i 4 t (by omega)
        have hlt3 := UInt8.toNat_lt s[i + (t + 1)]
        have hnx : numF (byt s) i 4 (t + 1) = 64 * numF (byt s) i 4 t + s[i + (t + 1)].toNat % 64 := by rw [numF, hb1]
        obtain ⟨x, hx⟩ : ∃ x, numF (byt s) i 4 t = x := ⟨_, rfl⟩
        rw [hx] at hnx hr
        rw [hx]
        have HN := Lib.hid hnx
        have hg : ((t : Int) + 1) < 4 := by omega
        have hg2 : (i : Int) + (t + 1) < s.size := by omega
        clear hnx hx hb1 hbl
        go_wp2
        go_round
        case rel => exact ⟨t + 1, by omega, by go_num, by rw [HN.out]; go_num⟩
        case measure => simp [RowKit.intOf]; omega
      · obtain rfl : t = 3 := by omega
        go_wp2
        go_ret
        exact ⟨rfl, rfl⟩
theorem number_any (s : ByteArray) (i k : Nat) (w : World) (hs : s.size ≤ maxLen) (h1 : 1 ≤ k) (h4 : k ≤ 4) (hik : i + k ≤ s.size) :
    Calls Tryz.prog 126 #[.string s, .int .i64 i, .int .i64 k] w fun e w' => e = .returned (.int .i64 (numF (byt s) i k (k - 1) : Nat)) ∧ w = w' := by
  rcases (by omega : k = 1 ∨ k = 2 ∨ k = 3 ∨ k = 4) with rfl | rfl | rfl | rfl
  · exact number_1 s i w hik
  · exact number_2 s i w hs hik
  · exact number_3 s i w hs hik
  · exact number_4 s i w hs hik
end
section
open Go.RowKit Go.Lib
theorem ba_byt {a b : ByteArray} (hs : a.size = b.size) (h : ∀ j, j < a.size → byt a j = byt b j) : a = b := by
  apply ByteArray.ext
  apply Array.ext hs
  intro j h1 h2
  have := h j h1
  rw [byt_get a j h1, byt_get b j h2] at this
  exact UInt8.toNat_inj.1 this
theorem At.shift {B B' : Nat → Nat} {n n' i i' p k : Nat} (h : At B n i p k) (hb : ∀ t, t < k → B' (i' + t) = B (i + t)) (hn : i' + k ≤ n') : At B' n' i' p k := by
  rcases h with ⟨rfl, h⟩ | ⟨rfl, h⟩ | ⟨rfl, h⟩ | ⟨rfl, h⟩
  · have b0 := hb 0 (by omega)
    rw [Nat.add_zero, Nat.add_zero] at b0
    exact .inl ⟨rfl, h.1, hn, by omega⟩
  · have b0 := hb 0 (by omega)
    have b1 := hb 1 (by omega)
    rw [Nat.add_zero, Nat.add_zero] at b0
    exact .inr (.inl ⟨rfl, by omega, by omega, hn, by omega, by omega⟩)
  · have b0 := hb 0 (by omega)
    have b1 := hb 1 (by omega)
    have b2 := hb 2 (by omega)
    rw [Nat.add_zero, Nat.add_zero] at b0
    exact .inr (.inr (.inl ⟨rfl, by omega, by omega, by omega, hn, by omega, by omega, by omega⟩))
  · have b0 := hb 0 (by omega)
    have b1 := hb 1 (by omega)
    have b2 := hb 2 (by omega)
    have b3 := hb 3 (by omega)
    rw [Nat.add_zero, Nat.add_zero] at b0
    exact .inr (.inr (.inr ⟨rfl, by omega, by omega, hn, by omega, by omega, by omega, by omega⟩))
theorem size_cut (s : ByteArray) (i k : Nat) (h : i + k ≤ s.size) : (s.extract i (i + k)).size = k := by
  rw [← size_data, extract_list, List.length_drop, List.length_take, size_data]
  omega
theorem byt_cut (s : ByteArray) (i k j : Nat) (hj : j < k) : byt (s.extract i (i + k)) j = byt s (i + j) := by
  rw [byt_data, byt_data, extract_list]
  simp only [List.getD_eq_getElem?_getD, List.getElem?_drop, List.getElem?_take]
  rw [if_pos (by omega)]
theorem one_of_eq {s : ByteArray} {i k : Nat} {x : Int} (hk : i + k ≤ s.size) (hx : isPoint x = true) (h : strOfNums (encodeRuneZ x) = s.extract i (i + k)) : At (byt s) s.size i x.toNat k := by
  have h1 := at_list [] [] x hx
  simp only [List.nil_append, List.append_nil, List.length_nil] at h1
  have hl : (encodeRuneZ x).length = k := by
    have := congrArg ByteArray.size h
    rw [strOfNums_size, size_cut s i k hk] at this
    exact this
  rw [h, hl] at h1
  refine h1.shift (fun t ht => ?_) hk
  rw [Nat.zero_add, byt_cut s i k t ht]
theorem eq_of_one {s : ByteArray} {i k p : Nat} (h : At (byt s) s.size i p k) : isPoint (p : Int) = true ∧ strOfNums (encodeRuneZ (p : Int)) = s.extract i (i + k) := by
  have hk := h.end_le.1
  have hp : isPoint (p : Int) = true := by
    simp only [isPoint, Bool.and_eq_true, Bool.or_eq_true, decide_eq_true_eq]
    rcases h with ⟨rfl, h⟩ | ⟨rfl, h⟩ | ⟨rfl, h⟩ | ⟨rfl, h⟩ <;> omega
  refine ⟨hp, ?_⟩
  have h1 := at_list [] [] (p : Int) hp
  simp only [List.nil_append, List.append_nil, List.length_nil, Int.toNat_natCast] at h1
  have hz : (strOfNums (encodeRuneZ (p : Int))).size = (encodeRuneZ (p : Int)).length := strOfNums_size _
  have key : ∀ m, At (byt (strOfNums (encodeRuneZ (p : Int)))) (strOfNums (encodeRuneZ (p : Int))).size 0 p m → k = m → (strOfNums (encodeRuneZ (p : Int))).size = m → strOfNums (encodeRuneZ (p : Int)) = s.extract i (i + k) := by
    intro m g e hm
    subst e
    refine ba_byt (by rw [hm, size_cut s i k hk]) fun j hj => ?_
    rw [hm] at hj
    rw [byt_cut s i k j hj]
    rcases h with ⟨rfl, h⟩ | ⟨rfl, h⟩ | ⟨rfl, h⟩ | ⟨rfl, h⟩ <;> rcases g with ⟨e, g⟩ | ⟨e, g⟩ | ⟨e, g⟩ | ⟨e, g⟩ <;> first | (cases e; done) | skip
    · obtain rfl : j = 0 := by omega
      rw [Nat.add_zero]; omega
    · rcases (by omega : j = 0 ∨ j = 1) with rfl | rfl
      · rw [Nat.add_zero]; omega
      · simp only [Nat.zero_add] at g; omega
    · rcases (by omega : j = 0 ∨ j = 1 ∨ j = 2) with rfl | rfl | rfl
      · rw [Nat.add_zero]; omega
      · simp only [Nat.zero_add] at g; omega
      · simp only [Nat.zero_add] at g; omega
    · rcases (by omega : j = 0 ∨ j = 1 ∨ j = 2 ∨ j = 3) with rfl | rfl | rfl | rfl
      · rw [Nat.add_zero]; omega
      · simp only [Nat.zero_add] at g; omega
      · simp only [Nat.zero_add] at g; omega
      · simp only [Nat.zero_add] at g; omega
  refine key _ h1 ?_ hz
  rcases h with ⟨rfl, h⟩ | ⟨rfl, h⟩ | ⟨rfl, h⟩ | ⟨rfl, h⟩
  · rw [encodeRuneZ_one (by omega) (by omega)]; rfl
  · rw [encodeRuneZ_two (by omega) (by omega)]; rfl
  · rw [encodeRuneZ_three (by omega)]; rfl
  · rw [encodeRuneZ_four (by omega) (by omega)]; rfl
def numZ (s : ByteArray) (i k : Nat) : Nat := numF (byt s) i k (k - 1)
def oneB (s : ByteArray) (i k : Nat) : Bool := isPoint (numZ s i k : Nat) && ((strOfNums (encodeRuneZ (numZ s i k : Nat))).toList == (s.extract i (i + k)).toList)
theorem oneB_iff {s : ByteArray} {i k : Nat} (hk : i + k ≤ s.size) : oneB s i k = true ↔ At (byt s) s.size i (numZ s i k) k := by
  unfold oneB
  rw [Bool.and_eq_true, ba_beq, decide_eq_true_eq]
  constructor
  · rintro ⟨h1, h2⟩
    have := one_of_eq hk h1 h2
    rwa [Int.toNat_natCast] at this
  · intro h
    exact eq_of_one h
theorem oneB_at {s : ByteArray} {i k p : Nat} (h : At (byt s) s.size i p k) : numZ s i k = p ∧ oneB s i k = true := by
  have h1 : numZ s i k = p := num_at h
  refine ⟨h1, (oneB_iff h.end_le.1).2 ?_⟩
  rw [h1]
  exact h
theorem one_out (s : ByteArray) (a : Int) (k : Nat) (w : World) (hs : s.size ≤ 2000000) (h : a < 0 ∨ (s.size : Int) < a + k) (hk : k ≤ 4) (ha : a ≤ s.size) :
    Calls Tryz.prog 116 #[.string s, .int .i64 a, .int .i64 k] w fun e w' => e = .returned (.tuple #[.int .i64 0, .bool false]) ∧ w = w' := by
  by_cases h0 : a < 0
  · have hd : decide (a < 0) = true := by simpa using h0
    go_enter Tryz.func116, Tryz.ntmps116
    go_wp2
    go_ret2
    exact ⟨rfl, rfl⟩
  · have h1 : (s.size : Int) < a + k := by omega
    go_enter Tryz.func116, Tryz.ntmps116
    go_wp2
    go_ret2
    exact ⟨rfl, rfl⟩
theorem conv_new (w : World) (arr : Array Value) (x : Int) (h : arr.toList = runeCells x) : (convert 145 9 (.slice (some ⟨w.heap.size, 0, none⟩) arr.size arr.size)).run Tryz.prog (w.alloc (.cells arr 5)).drew = .ok (.string (strOfNums (encodeRuneZ x))) (w.alloc (.cells arr 5)).drew := by
  have hs : arr.size = (encodeRuneZ x).length := by
    rw [← Array.length_toList, h]
    simp [runeCells]
  rw [hs]
  refine run_convert_bytes_arg (w.alloc (.cells arr 5)).drew _ _ Tryz.underlying145 Tryz.underlying5 w.heap.size 0 (encodeRuneZ x).length (encodeRuneZ x).length (encodeRuneZ x) rfl (fun j hj => ?_) _ Tryz.underlying9
  show (w.alloc (.cells arr 5)).cell? ⟨w.heap.size, 0 + j, none⟩ = _
  simp only [World.cell?, heap_alloc_new, Nat.zero_add]
  rw [← Array.getElem?_toList, h]
  simp [runeCells, List.getD_eq_getElem?_getD, hj]
set_option maxHeartbeats 2000000 in
theorem one_in (s : ByteArray) (i k : Nat) (w : World) (hs : s.size ≤ 2000000) (h1 : 1 ≤ k) (h4 : k ≤ 4) (hik : i + k ≤ s.size) :
    Calls Tryz.prog 116 #[.string s, .int .i64 i, .int .i64 k] w fun e w' => e = .returned (.tuple #[.int .i64 (numZ s i k : Nat), .bool (oneB s i k)]) ∧ Below w.heap.size w w' := by
  have hnum := number_any s i k w (by unfold maxLen; omega) h1 h4 hik
  obtain ⟨v, hv⟩ : ∃ v, numZ s i k = v := ⟨_, rfl⟩
  have hB : oneB s i k = (isPoint (v : Nat) && ((strOfNums (encodeRuneZ (v : Nat))).toList == (s.extract i (i + k)).toList)) := by unfold oneB; rw [hv]
  rw [show numF (byt s) i k (k - 1) = v from hv] at hnum
  rw [hv, hB]
  clear hv hB
  have hik' : (i : Int) + k ≤ s.size := by omega
  cases hp : isPoint (v : Nat) with
  | false =>
    have hq := fun W => is_any (v : Nat) W
    rw [hp] at hq
    clear hp
    go_enter Tryz.func116, Tryz.ntmps116
    go_wp2_with fail
    refine hnum.mono ?_
    rintro e w1 ⟨rfl, rfl⟩
    go_wp2
    refine wp_region_held_drew (S := fun _ => True) (by kernel_rfl) trivial (fun hHeld => ?_)
    refine wpAnyH_take (i := 0) (oi := _) (v := .int .i64 (v : Nat)) rfl (by kernel_rfl) (by kernel_rfl) (by kernel_rfl) (fun _ _ _ h => h) (Or.inl ⟨by rfl, fun W _ => rfl⟩) hHeld ?_
    try simp only [Act.put, List.getElem_toArray, List.getElem_cons_zero, List.setIfInBounds_toArray, List.set_cons_zero, List.set_cons_succ]
    refine wpAnyH_take (i := 1) (oi := _) (v := .int .i64 (v : Nat)) rfl (by kernel_rfl) (by kernel_rfl) (by kernel_rfl) (fun _ _ _ h => h) (Or.inl ⟨by rfl, fun W _ => rfl⟩) hHeld ?_
    try simp only [Act.put, List.getElem_toArray, List.getElem_cons_zero, List.getElem_cons_succ, List.setIfInBounds_toArray, List.set_cons_zero, List.set_cons_succ]
    refine wpAnyH_ready (rs := [2]) (by kernel_rfl) (by simp) ?_
    refine AllReadyH.cons (o := _) rfl (fun K hK => ?_) AllReadyH.nil
    go_simp
    refine (hq _).mono ?_
    rintro e w2 ⟨rfl, rfl⟩
    clear hHeld
    refine hK.out _ _ trivial (fun hHeld => ?_)
    clear hK K
    try simp only [Act.put, List.getElem_toArray, List.getElem_cons_zero, List.getElem_cons_succ, List.setIfInBounds_toArray, List.set_cons_zero, List.set_cons_succ]
    refine wpAnyH_take (i := 3) (oi := _) (v := .bool false) rfl (by kernel_rfl) (by kernel_rfl) (by kernel_rfl) (fun _ _ _ h => h) (Or.inl ⟨by rfl, fun W _ => rfl⟩) hHeld ?_
    try simp only [Act.put, List.getElem_toArray, List.getElem_cons_zero, List.getElem_cons_succ, List.setIfInBounds_toArray, List.set_cons_zero, List.set_cons_succ]
    refine wpAnyH_take (i := 4) (oi := _) (v := undef) rfl (by kernel_rfl) (by kernel_rfl) (by kernel_rfl) (fun _ _ _ h => h) (Or.inr ⟨by rfl, rfl⟩) hHeld ?_
    try simp only [Act.put, List.getElem_toArray, List.getElem_cons_zero, List.getElem_cons_succ, List.setIfInBounds_toArray, List.set_cons_zero, List.set_cons_succ]
    refine wpAnyH_take (i := 5) (oi := _) (v := undef) rfl (by kernel_rfl) (by kernel_rfl) (by kernel_rfl) (fun _ _ _ h => h) (Or.inr ⟨by rfl, rfl⟩) hHeld ?_
    try simp only [Act.put, List.getElem_toArray, List.getElem_cons_zero, List.getElem_cons_succ, List.setIfInBounds_toArray, List.set_cons_zero, List.set_cons_succ]
    refine wpAnyH_take (i := 6) (oi := _) (v := undef) rfl (by kernel_rfl) (by kernel_rfl) (by kernel_rfl) (fun _ _ _ h => h) (Or.inr ⟨by rfl, rfl⟩) hHeld ?_
    try simp only [Act.put, List.getElem_toArray, List.getElem_cons_zero, List.getElem_cons_succ, List.setIfInBounds_toArray, List.set_cons_zero, List.set_cons_succ]
    refine wpAnyH_take (i := 7) (oi := _) (v := undef) rfl (by kernel_rfl) (by kernel_rfl) (by kernel_rfl) (fun _ _ _ h => h) (Or.inr ⟨by rfl, rfl⟩) hHeld ?_
    try simp only [Act.put, List.getElem_toArray, List.getElem_cons_zero, List.getElem_cons_succ, List.setIfInBounds_toArray, List.set_cons_zero, List.set_cons_succ]
    refine wpAnyH_take (i := 8) (oi := _) (v := undef) rfl (by kernel_rfl) (by kernel_rfl) (by kernel_rfl) (fun _ _ _ h => h) (Or.inr ⟨by rfl, rfl⟩) hHeld ?_
    try simp only [Act.put, List.getElem_toArray, List.getElem_cons_zero, List.getElem_cons_succ, List.setIfInBounds_toArray, List.set_cons_zero, List.set_cons_succ]
    refine wpAnyH_take (i := 9) (oi := _) (v := undef) rfl (by kernel_rfl) (by kernel_rfl) (by kernel_rfl) (fun _ _ _ h => h) (Or.inr ⟨by rfl, rfl⟩) hHeld ?_
    try simp only [Act.put, List.getElem_toArray, List.getElem_cons_zero, List.getElem_cons_succ, List.setIfInBounds_toArray, List.set_cons_zero, List.set_cons_succ]
    refine wpAnyH_take (i := 10) (oi := _) (v := undef) rfl (by kernel_rfl) (by kernel_rfl) (by kernel_rfl) (fun _ _ _ h => h) (Or.inr ⟨by rfl, rfl⟩) hHeld ?_
    try simp only [Act.put, List.getElem_toArray, List.getElem_cons_zero, List.getElem_cons_succ, List.setIfInBounds_toArray, List.set_cons_zero, List.set_cons_succ]
    refine wpAnyH_take (i := 11) (oi := _) (v := undef) rfl (by kernel_rfl) (by kernel_rfl) (by kernel_rfl) (fun _ _ _ h => h) (Or.inr ⟨by rfl, rfl⟩) hHeld ?_
    try simp only [Act.put, List.getElem_toArray, List.getElem_cons_zero, List.getElem_cons_succ, List.setIfInBounds_toArray, List.set_cons_zero, List.set_cons_succ]
    refine wpAnyH_take (i := 12) (oi := _) (v := undef) rfl (by kernel_rfl) (by kernel_rfl) (by kernel_rfl) (fun _ _ _ h => h) (Or.inr ⟨by rfl, rfl⟩) hHeld ?_
    try simp only [Act.put, List.getElem_toArray, List.getElem_cons_zero, List.getElem_cons_succ, List.setIfInBounds_toArray, List.set_cons_zero, List.set_cons_succ]
    refine wpAnyH_take (i := 13) (oi := _) (v := undef) rfl (by kernel_rfl) (by kernel_rfl) (by kernel_rfl) (fun _ _ _ h => h) (Or.inr ⟨by rfl, rfl⟩) hHeld ?_
    try simp only [Act.put, List.getElem_toArray, List.getElem_cons_zero, List.getElem_cons_succ, List.setIfInBounds_toArray, List.set_cons_zero, List.set_cons_succ]
    refine wpAnyH_take (i := 14) (oi := _) (v := .bool false) rfl (by kernel_rfl) (by kernel_rfl) (by kernel_rfl) (fun _ _ _ h => h) (Or.inl ⟨by rfl, by intro W hW; clear hW; go_simp⟩) hHeld ?_
    try simp only [Act.put, List.getElem_toArray, List.getElem_cons_zero, List.getElem_cons_succ, List.setIfInBounds_toArray, List.set_cons_zero, List.set_cons_succ]
    refine wpAnyH_take (i := 15) (oi := _) (v := .int .i64 (v : Nat)) rfl (by kernel_rfl) (by kernel_rfl) (by kernel_rfl) (fun _ _ _ h => h) (Or.inl ⟨by rfl, fun W _ => rfl⟩) hHeld ?_
    try simp only [Act.put, List.getElem_toArray, List.getElem_cons_zero, List.getElem_cons_succ, List.setIfInBounds_toArray, List.set_cons_zero, List.set_cons_succ]
    refine wpAnyH_take (i := 16) (oi := _) (v := .bool false) rfl (by kernel_rfl) (by kernel_rfl) (by kernel_rfl) (fun _ _ _ h => h) (Or.inl ⟨by rfl, fun W _ => rfl⟩) hHeld ?_
    try simp only [Act.put, List.getElem_toArray, List.getElem_cons_zero, List.getElem_cons_succ, List.setIfInBounds_toArray, List.set_cons_zero, List.set_cons_succ]
    refine wpAnyH_done (by kernel_rfl) ?_ _
    go_wp2
    go_ret2
    exact ⟨by simp, (Below.refl _ _).drew⟩
  | true =>
    have hq := fun W => is_any (v : Nat) W
    rw [hp] at hq
    obtain ⟨p0, p1, p2⟩ := isPoint_iff hp
    have hby := fun W => bytes_any (v : Nat) p0 p1 p2 W
    clear hp p0 p1 p2
    go_enter Tryz.func116, Tryz.ntmps116
    go_wp2_with fail
    refine hnum.mono ?_
    rintro e w1 ⟨rfl, rfl⟩
    go_wp2
    refine wp_region_held_drew (S := fun _ => True) (by kernel_rfl) trivial (fun hHeld => ?_)
    refine wpAnyH_take (i := 0) (oi := _) (v := .int .i64 (v : Nat)) rfl (by kernel_rfl) (by kernel_rfl) (by kernel_rfl) (fun _ _ _ h => h) (Or.inl ⟨by rfl, fun W _ => rfl⟩) hHeld ?_
    try simp only [Act.put, List.getElem_toArray, List.getElem_cons_zero, List.setIfInBounds_toArray, List.set_cons_zero, List.set_cons_succ]
    refine wpAnyH_take (i := 1) (oi := _) (v := .int .i64 (v : Nat)) rfl (by kernel_rfl) (by kernel_rfl) (by kernel_rfl) (fun _ _ _ h => h) (Or.inl ⟨by rfl, fun W _ => rfl⟩) hHeld ?_
    try simp only [Act.put, List.getElem_toArray, List.getElem_cons_zero, List.getElem_cons_succ, List.setIfInBounds_toArray, List.set_cons_zero, List.set_cons_succ]
    refine wpAnyH_ready (rs := [2]) (by kernel_rfl) (by simp) ?_
    refine AllReadyH.cons (o := _) rfl (fun K hK => ?_) AllReadyH.nil
    go_simp
    refine (hq _).mono ?_
    rintro e w2 ⟨rfl, rfl⟩
    clear hHeld
    refine hK.out _ _ trivial (fun hHeld => ?_)
    clear hK K
    try simp only [Act.put, List.getElem_toArray, List.getElem_cons_zero, List.getElem_cons_succ, List.setIfInBounds_toArray, List.set_cons_zero, List.set_cons_succ]
    refine wpAnyH_take (i := 3) (oi := _) (v := .bool true) rfl (by kernel_rfl) (by kernel_rfl) (by kernel_rfl) (fun _ _ _ h => h) (Or.inl ⟨by rfl, fun W _ => rfl⟩) hHeld ?_
    try simp only [Act.put, List.getElem_toArray, List.getElem_cons_zero, List.getElem_cons_succ, List.setIfInBounds_toArray, List.set_cons_zero, List.set_cons_succ]
    refine wpAnyH_take (i := 4) (oi := _) (v := .int .i64 (v : Nat)) rfl (by kernel_rfl) (by kernel_rfl) (by kernel_rfl) (fun _ _ _ h => h) (Or.inl ⟨by rfl, fun W _ => rfl⟩) hHeld ?_
    try simp only [Act.put, List.getElem_toArray, List.getElem_cons_zero, List.getElem_cons_succ, List.setIfInBounds_toArray, List.set_cons_zero, List.set_cons_succ]
    refine wpAnyH_take (i := 7) (oi := _) (v := .string s) rfl (by kernel_rfl) (by kernel_rfl) (by kernel_rfl) (fun _ _ _ h => h) (Or.inl ⟨by rfl, fun W _ => rfl⟩) hHeld ?_
    try simp only [Act.put, List.getElem_toArray, List.getElem_cons_zero, List.getElem_cons_succ, List.setIfInBounds_toArray, List.set_cons_zero, List.set_cons_succ]
    refine wpAnyH_take (i := 8) (oi := _) (v := .int .i64 i) rfl (by kernel_rfl) (by kernel_rfl) (by kernel_rfl) (fun _ _ _ h => h) (Or.inl ⟨by rfl, fun W _ => rfl⟩) hHeld ?_
    try simp only [Act.put, List.getElem_toArray, List.getElem_cons_zero, List.getElem_cons_succ, List.setIfInBounds_toArray, List.set_cons_zero, List.set_cons_succ]
    refine wpAnyH_take (i := 9) (oi := _) (v := .int .i64 i) rfl (by kernel_rfl) (by kernel_rfl) (by kernel_rfl) (fun _ _ _ h => h) (Or.inl ⟨by rfl, fun W _ => rfl⟩) hHeld ?_
    try simp only [Act.put, List.getElem_toArray, List.getElem_cons_zero, List.getElem_cons_succ, List.setIfInBounds_toArray, List.set_cons_zero, List.set_cons_succ]
    refine wpAnyH_take (i := 10) (oi := _) (v := .int .i64 k) rfl (by kernel_rfl) (by kernel_rfl) (by kernel_rfl) (fun _ _ _ h => h) (Or.inl ⟨by rfl, fun W _ => rfl⟩) hHeld ?_
    try simp only [Act.put, List.getElem_toArray, List.getElem_cons_zero, List.getElem_cons_succ, List.setIfInBounds_toArray, List.set_cons_zero, List.set_cons_succ]
    refine wpAnyH_take (i := 11) (oi := _) (v := .int .i64 ((i : Int) + k)) rfl (by kernel_rfl) (by kernel_rfl) (by kernel_rfl) (fun _ _ _ h => h) (Or.inl ⟨by rfl, by intro W hW; clear hW; go_simp; exact IntWalk.i64_in _ (by omega)⟩) hHeld ?_
    try simp only [Act.put, List.getElem_toArray, List.getElem_cons_zero, List.getElem_cons_succ, List.setIfInBounds_toArray, List.set_cons_zero, List.set_cons_succ]
    refine wpAnyH_take (i := 12) (oi := _) (v := .string (s.extract i (i + k))) rfl (by kernel_rfl) (by kernel_rfl) (by kernel_rfl) (fun _ _ _ h => h) (Or.inl ⟨by rfl, by intro W hW; clear hW; go_simp; rw [if_pos (by omega), if_pos (by omega), show ((i : Int) + k).toNat = i + k by omega]⟩) hHeld ?_
    try simp only [Act.put, List.getElem_toArray, List.getElem_cons_zero, List.getElem_cons_succ, List.setIfInBounds_toArray, List.set_cons_zero, List.set_cons_succ]
    refine wpAnyH_ready (rs := [5]) (by kernel_rfl) (by simp) ?_
    refine AllReadyH.cons (o := _) rfl (fun K hK => ?_) AllReadyH.nil
    go_simp
    refine (hby _).mono ?_
    rintro e w3 ⟨arr, rfl, harr, rfl⟩
    clear hHeld
    refine hK.out _ _ trivial (fun hHeld => ?_)
    clear hK K
    try simp only [Act.put, List.getElem_toArray, List.getElem_cons_zero, List.getElem_cons_succ, List.setIfInBounds_toArray, List.set_cons_zero, List.set_cons_succ]
    have hcv := conv_new w arr (v : Nat) harr
    refine wpAnyH_take (i := 15) (oi := _) (v := .int .i64 (v : Nat)) rfl (by kernel_rfl) (by kernel_rfl) (by kernel_rfl) (fun _ _ _ h => h) (Or.inl ⟨by rfl, fun W _ => rfl⟩) hHeld ?_
    try simp only [Act.put, List.getElem_toArray, List.getElem_cons_zero, List.getElem_cons_succ, List.setIfInBounds_toArray, List.set_cons_zero, List.set_cons_succ]
    refine wpAnyH_ready (rs := [6]) (by kernel_rfl) (by simp) ?_
    refine AllReadyH.cons (o := _) rfl (fun K hK => ?_) AllReadyH.nil
    go_simp
    clear hcv
    clear harr
    clear hHeld
    refine hK.out _ _ trivial (fun hHeld => ?_)
    clear hK K
    try simp only [Act.put, List.getElem_toArray, List.getElem_cons_zero, List.getElem_cons_succ, List.setIfInBounds_toArray, List.set_cons_zero, List.set_cons_succ]
    refine wpAnyH_take (i := 13) (oi := _) (v := .bool ((strOfNums (encodeRuneZ (v : Nat))).toList == (s.extract i (i + k)).toList)) rfl (by kernel_rfl) (by kernel_rfl) (by kernel_rfl) (fun _ _ _ h => h) (Or.inl ⟨by rfl, by intro W hW; clear hW; go_simp⟩) hHeld ?_
    try simp only [Act.put, List.getElem_toArray, List.getElem_cons_zero, List.getElem_cons_succ, List.setIfInBounds_toArray, List.set_cons_zero, List.set_cons_succ]
    refine wpAnyH_take (i := 14) (oi := _) (v := .bool ((strOfNums (encodeRuneZ (v : Nat))).toList == (s.extract i (i + k)).toList)) rfl (by kernel_rfl) (by kernel_rfl) (by kernel_rfl) (fun _ _ _ h => h) (Or.inl ⟨by rfl, by intro W hW; clear hW; go_simp⟩) hHeld ?_
    try simp only [Act.put, List.getElem_toArray, List.getElem_cons_zero, List.getElem_cons_succ, List.setIfInBounds_toArray, List.set_cons_zero, List.set_cons_succ]
    refine wpAnyH_take (i := 16) (oi := _) (v := .bool ((strOfNums (encodeRuneZ (v : Nat))).toList == (s.extract i (i + k)).toList)) rfl (by kernel_rfl) (by kernel_rfl) (by kernel_rfl) (fun _ _ _ h => h) (Or.inl ⟨by rfl, fun W _ => rfl⟩) hHeld ?_
    try simp only [Act.put, List.getElem_toArray, List.getElem_cons_zero, List.getElem_cons_succ, List.setIfInBounds_toArray, List.set_cons_zero, List.set_cons_succ]
    refine wpAnyH_done (by kernel_rfl) ?_ _
    go_wp2
    go_ret2
    exact ⟨by simp, ((Below.refl _ _).drew).alloc (Nat.le_refl _) _⟩
end
section
open Go.RowKit Go.Lib
theorem next_none {s : ByteArray} {i : Nat} (hi : i < s.size) (h : ∀ p k, ¬ At (byt s) s.size i p k) : nextV s (i : Int) = (0, 0, 10) := by
  unfold nextV
  rw [if_neg (by omega), show (i : Int).toNat = i by omega]
  unfold told
  by_cases g : (dec (byt s) s.size i).1 = 65533 ∧ (dec (byt s) s.size i).2 < 3
  · rw [if_pos g]
  · exact absurd (at_of_dec (byt_lt s) hi g) (h _ _)
set_option maxHeartbeats 1000000 in
theorem refnext_any (s : ByteArray) (a : Int) (w : World) (hs : s.size ≤ 2000000) :
    Calls Tryz.prog 105 #[.string s, .int .i64 a] w fun e w' => e = .returned (.tuple #[.int .i64 (nextV s a).1, .int .i64 (nextV s a).2.1, .int .i64 (nextV s a).2.2]) ∧ Below w.heap.size w w' := by
  by_cases h0 : a < 0
  · have e1 : nextV s a = (0, 0, 2) := by simp [nextV, h0]
    rw [e1]
    go_enter Tryz.func105, Tryz.ntmps105
    go_wp2
    go_ret3
    exact ⟨rfl, Below.refl _ _⟩
  · obtain ⟨i, rfl⟩ : ∃ k : Nat, a = (k : Int) := ⟨a.toNat, by omega⟩
    by_cases h1 : i < s.size
    · have hsI : (s.size : Int) ≤ 2000000 := by omega
      have h1I : ¬ (s.size : Int) ≤ i := by omega
      obtain ⟨V, hV⟩ : ∃ V, nextV s (i : Int) = V := ⟨_, rfl⟩
      have HV := Lib.hid hV
      rw [hV]
      clear hV
      go_enter Tryz.func105, Tryz.ntmps105
      go_wp2
      go_loopw [7] (fun z wr => ∃ k : Nat, 1 ≤ k ∧ k ≤ 5 ∧ z = .int .i64 k ∧ (∀ p j, j < k → ¬ At (byt s) s.size i p j) ∧ Below w.heap.size w wr) (fun z _ => 5 - (RowKit.intOf z).toNat)
      case atStart => exact ⟨1, by omega, by omega, rfl, fun p j hj h => by have := h.end_le; omega, Below.refl _ _⟩
      case round =>
        obtain ⟨k, k1, k5, rfl, hnot, hb⟩ := hrel
        by_cases hk : k ≤ 4
        · by_cases hin : i + k ≤ s.size
          · have hc := one_in s i k wr hs k1 hk hin
            cases hO : oneB s i k with
            | true =>
              have hat := (oneB_iff hin).1 hO
              have hv2 := next_of_at hat
              rw [HV.out] at hv2
              rw [hO] at hc
              obtain ⟨x, hx⟩ : ∃ x, numZ s i k = x := ⟨_, rfl⟩
              rw [hx] at hc hv2
              clear hO HV hat hnot hx
              subst hv2
              go_wp2_with fail
              refine hc.mono ?_
              rintro e w2 ⟨rfl, hb2⟩
              go_wp2
              go_ret3
              exact ⟨rfl, hb.trans (hb2.mono hb.size)⟩
            | false =>
              have hnot2 : ∀ p j, j < k + 1 → ¬ At (byt s) s.size i p j := by
                intro p j hj h
                by_cases e : j = k
                · subst e
                  have := (oneB_at h).2
                  rw [hO] at this
                  cases this
                · exact hnot p j (by omega) h
              rw [hO] at hc
              clear hO hnot
              obtain ⟨x, hx⟩ : ∃ x, numZ s i k = x := ⟨_, rfl⟩
              rw [hx] at hc
              clear hx
              have HN := Lib.hid hnot2
              clear hnot2
              go_wp2_with fail
              refine hc.mono ?_
              rintro e w2 ⟨rfl, hb2⟩
              go_wp2
              go_roundw
              case rel => exact ⟨k + 1, by omega, by omega, by go_num, HN.out, hb.trans (hb2.mono hb.size)⟩
              case measure => simp [RowKit.intOf]; omega
          · have hc := one_out s i k wr hs (.inr (by omega)) hk (by omega)
            have hnot2 : ∀ p j, j < k + 1 → ¬ At (byt s) s.size i p j := by
              intro p j hj h
              by_cases e : j = k
              · subst e
                have := h.end_le
                omega
              · exact hnot p j (by omega) h
            clear hnot
            have HN := Lib.hid hnot2
            clear hnot2
            go_wp2_with fail
            refine hc.mono ?_
            rintro e w2 ⟨rfl, rfl⟩
            go_wp2
            go_roundw
            case rel => exact ⟨k + 1, by omega, by omega, by go_num, HN.out, hb⟩
            case measure => simp [RowKit.intOf]; omega
        · have hv2 := next_none h1 (fun p j h => hnot p j (by have := h.end_le; omega) h)
          rw [HV.out] at hv2
          subst hv2
          clear HV hnot
          have hk4 : ¬ (k : Int) ≤ 4 := by omega
          go_wp2
          go_ret3
          exact ⟨rfl, hb⟩
    · have e1 : nextV s (i : Int) = (0, 0, 2) := by
        unfold nextV
        rw [if_pos (by omega)]
      have h2 : (s.size : Int) ≤ i := by omega
      rw [e1]
      go_enter Tryz.func105, Tryz.ntmps105
      go_wp2
      go_ret3
      exact ⟨rfl, Below.refl _ _⟩
end
end Go.Proofs.YtcgioepbooafcaaGreatDoor
