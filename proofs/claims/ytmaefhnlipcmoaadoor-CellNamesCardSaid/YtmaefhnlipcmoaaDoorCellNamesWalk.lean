/- The law CellNames: it answers true. Conditions: Go's two tables of utf8. -/
import Derived.Test.YtmaefhnlipcmoaaDoorAlv
namespace Go.Proofs.YtmaefhnlipcmoaaDoor
open Go.RowKit
theorem rd_ofK {w : World} {base n c sz : Nat} {e : TypeId} {A : Option Addr} {xs : List Value} (h : w.ownsRow base e sz (.slice A n c) n xs) : Rd w w.heap.size A xs := by
  obtain ⟨h1, h2⟩ := h
  rcases h2 with ⟨h3, rfl⟩ | ⟨g, cap, cur, h3, hg, hh, hn, hc, hs, ht⟩
  · left
    exact List.eq_nil_of_length_eq_zero (by omega)
  · simp only [Value.slice.injEq] at h3
    obtain ⟨rfl, _, rfl⟩ := h3
    right
    refine ⟨g, 0, rfl, (Array.getElem?_eq_some_iff.1 hh).1, fun j hj => ?_⟩
    rw [Nat.zero_add, cell_of_row w g j _ _ (0, 0) hh, ← Array.getElem?_toList]
    have : xs[j]? = (cur.toList.take (n * sz))[j]? := by rw [ht]
    rw [List.getElem?_take, if_pos (by omega), List.getElem?_eq_getElem hj] at this
    exact this.symm
/-- append leaves what was owned as it was -/
theorem append_keep {P : Program} (w : World) (base : Nat) (t ty e : TypeId) (i : TypeInfo) (z : Value) (ht : P.underlying t = some (.slice e)) (hi : P.info? e = some i) (hz : i.zero = some z) (_hzs : z.cells.size = i.size) (_hpos : 0 < i.size)
    (v : Value) (n : Nat) (xs : List Value) (hown : w.ownsRow base e i.size v n xs) (a : Addr) (m c : Nat) (news : List Value) (hl : news.length = m * i.size) (hnews : ∀ j u, news[j]? = some u → w.cell? (a.add j) = some u) (h1 : ∀ u ∈ news, u.oneCell' = true)
    (h63 : n + m ≤ maxLen) (hbytes : (n + m) * i.bytes ≤ 140737488355328) {v' : Value} {w' : World} (hrun : (Builtin.append_ #[t, t] ty #[v, .slice (some a) m c]).run P w = .ok v' w') : w'.ownsRow base e i.size v n xs := by
  have hsmall : n + m ≤ 9223372036854775807 := by simp only [maxLen] at h63; omega
  rcases hown.2 with ⟨rfl, rfl⟩ | ⟨g, cap, cur, rfl, hbg, hg, hnc, hcm, hcs, htake⟩
  · have hx : xs = [] := List.eq_nil_of_length_eq_zero (by simpa using hown.1)
    subst hx
    exact World.ownsRow_nil _ _ _ _
  · by_cases hroom : n + m ≤ cap
    · have hfit : n * i.size + news.length ≤ cur.size := by rw [hl, hcs, ← Nat.add_mul]; exact Nat.mul_le_mul_right _ hroom
      have hr := run_append_room (P := P) w t ty e i ht hi g n cap cur hg a m c news hl hnews h1 hroom hfit
      rw [hr] at hrun
      simp only [Result.ok.injEq] at hrun
      obtain ⟨_, rfl⟩ := hrun
      refine ⟨hown.1, .inr ⟨g, cap, _, rfl, hbg, setRow_heap w g cur _ e _ hg, hnc, hcm, ?_, ?_⟩⟩
      · simp only [List.size_toArray, List.length_append, List.length_take, List.length_drop, Array.length_toList]
        omega
      · rw [htake, List.append_assoc, ← hown.1]
        exact List.take_left
    · have holds : ∀ j u, xs[j]? = some u → w.cell? ((⟨g, 0, none⟩ : Addr).add j) = some u := hown.cells (g := g) rfl
      have hr := run_append_grow (P := P) w t ty e i z ht hi hz ⟨g, 0, none⟩ n cap xs hown.1 holds a m c news hl hnews (by omega) (by omega) (growslice_fits (by omega) hbytes)
      rw [hr] at hrun
      simp only [Result.ok.injEq] at hrun
      obtain ⟨_, rfl⟩ := hrun
      exact World.ownsRow.alloc (w := w.drew) hown _
theorem wpList_append_keepK {P : Program} (w : World) {ops : Array Oper} {rest : List Oper} {o : Oper} {a : Act} {Q : Exit → Act → World → Prop} (hgd : o.guard = none) (s x : Operand) (t : TypeId)
    (ho : o.op = .call { callee := .builtin .append, args := #[s, x], argTypes := #[t, t] })
    (base : Nat) (e : TypeId) (i : TypeInfo) (z : Value) (size bytes : Nat) (ht : P.underlying t = some (.slice e)) (hi : P.info? e = some i) (hz : i.zero = some z)
    (hsize : i.size = size) (hby : i.bytes = bytes) (hzs : z.cells.size = size) (hpos : 0 < size) (v : Value) (n : Nat) (xs : List Value) (hs : a.eval s = v) (hown : w.ownsRow base e size v n xs)
    (b off m c : Nat) (news : List Value) (hx : a.eval x = .slice (some ⟨b, off, none⟩) m c) (hr : ∀ (j : Nat) (h : j < news.length), w.cell? ⟨b, off + j, none⟩ = some news[j]) (hl : news.length = m * size) (h1 : ∀ u ∈ news, u.oneCell' = true)
    (h63 : n + m ≤ maxLen) (hbytes : (n + m) * bytes ≤ 140737488355328) (hbase : base ≤ w.heap.size)
    (h : ∀ v' w', w'.ownsRow base e size v' (n + m) (xs ++ news) → w.grownBy w' v.ownBlock → w'.ownsRow base e size v n xs → wpList P ops Q rest (a.put o.dst v') w') : wpList P ops Q (o :: rest) a w := by
  refine wpList_plain hgd fun K hK => ?_
  have hc : ∀ j u, news[j]? = some u → w.cell? ((⟨b, off, none⟩ : Addr).add j) = some u := by
    intro j u hj
    obtain ⟨hj', rfl⟩ := List.getElem?_eq_some_iff.1 hj
    rw [Addr.add_lit]
    exact hr j hj'
  obtain ⟨v', w', hrun, r1, r2, _⟩ := run_append_own (P := P) w base t o.type e i z size bytes ht hi hz hsize hby hzs hpos v n xs hown ⟨b, off, none⟩ m c news hl hc h1 h63 hbytes hbase
  subst hsize
  subst hby
  have hk := append_keep (P := P) w base t o.type e i z ht hi hz hzs hpos v n xs hown ⟨b, off, none⟩ m c news hl hc h1 h63 hbytes hrun
  unfold Oper.wp
  simp [execOp, ho, resolve, invoke, builtin, hs, hx, hrun, Result.andThen]
  exact hK _ _ (h v' w' r1 r2 hk)
def L1 : Cel := ⟨6, ⟨#[]⟩, ⟨#[]⟩, 0, 1⟩
def L0 : Cel := ⟨6, ⟨#[]⟩, ⟨#[]⟩, 0, 0⟩
def Z0 : Cel := ⟨0, ⟨#[]⟩, ⟨#[]⟩, 0, 0⟩
theorem ck_nil : checkC [] = 8 := by kernel_rfl
theorem ck_one : checkC [L1] = 8 := by kernel_rfl
theorem ck_two : checkC [Z0, Z0] = 8 := by kernel_rfl
theorem ck_fits : checkC (List.replicate 16 L1 ++ [Z0]) = 0 := by kernel_rfl
theorem ck_deep : checkC (List.replicate 16 L1 ++ [L0]) = 8 := by kernel_rfl
theorem ck_five : checkC fiveL = 0 := by kernel_rfl
theorem in_own {w : World} {xs : List Cel} {base c : Nat} {A : Option Addr} (h : w.ownsRow base 45 5 (.slice A xs.length c) xs.length (cv xs)) (hs : xs.all smallB = true) (hl : xs.length ≤ 1000000) (hT : Tabs w) : In xs A w w.heap.size :=
  ⟨rd_ofK h, Nat.le_refl _, by unfold maxLen; omega, hT, wf_of_small hs⟩
end Go.Proofs.YtmaefhnlipcmoaaDoor
