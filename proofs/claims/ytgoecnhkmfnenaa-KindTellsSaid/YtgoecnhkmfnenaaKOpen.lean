/- How types, variables and their defaults lie in memory, when they read as data. Conditions: none. -/
import Derived.Test.YtgoecnhkmfnenaaUsable
import Derived.SliceStrings
import Derived.ChangeSame
namespace Go.Proofs.Ytgoecnhkmfnenaa
open Go.ChangeShapes Go.WideShapes Go.ChangeAt Go.RowKit
section
variable {H : Type} {enc : TypeId × Value → H} {W : World}
theorem wf_byte {k : Int} (h : (Lit.int .u8 k).wf = true) : 0 ≤ k ∧ k < 256 := by
  simp [Lit.wf] at h
  have h0 : IntKind.u8.min = 0 := rfl
  have h1 : IntKind.u8.max = 255 := rfl
  omega
set_option maxRecDepth 100000 in
theorem trod_bytes {fuel : Nat} {cs : List Value} {x : DataW H × List MemPlace} (h : DataW.trod enc Try.prog W 0 (fun _ => true) true fuel 22 cs = some x) :
    ∃ (A : Option Addr) (c : Nat) (ws : List UInt8), cs = [.slice A ws.length c] ∧ Rd W W.heap.size A (bv ws) ∧ ws.length ≤ c ∧ c ≤ maxLen := by
  rcases DataW.trod_slice Try.underlying22 h with ⟨rfl, _⟩ | ⟨a, len, cap, elems, rest, n, _, rfl, _, hb, hl, hm, hlen, hel, _, _⟩
  · exact ⟨none, 0, [], rfl, Rd.nil, Nat.le_refl _, by unfold maxLen; omega⟩
  · have each : ∀ i, i < len → ∃ u : UInt8, W.cell? (a.add i) = some (.int .u8 u.toNat) ∧ a.block < W.heap.size := by
      intro i hi
      have h1 := hel i hi
      rw [List.getElem?_eq_getElem (by omega), show Try.prog.cellsOf 5 = 1 by kernel_rfl, Nat.mul_one, Option.bind_eq_some_iff] at h1
      obtain ⟨cs', hcs, hy'⟩ := h1
      obtain ⟨k, rfl, _, hw⟩ := DataW.trod_int Try.underlying5 hy'
      obtain ⟨k0, k1⟩ := wf_byte hw
      refine ⟨UInt8.ofNat k.toNat, ?_, by have hq := World.cells?_block hcs Nat.one_pos; unfold Addr.add at hq; split at hq <;> exact hq⟩
      rw [cell_of_cells?_one hcs]
      congr 2
      simp
      omega
    obtain ⟨g, hg⟩ : ∃ g : Nat → UInt8, ∀ i, i < len → W.cell? (a.add i) = some (.int .u8 (g i).toNat) :=
      ⟨fun i => if h : i < len then Classical.choose (each i h) else 0, fun i hi => by simp only [hi, dif_pos]; exact (Classical.choose_spec (each i hi)).1⟩
    refine ⟨some a, cap, (List.range len).map g, by simp, ?_, by simpa using hl, hm⟩
    by_cases h0 : len = 0
    · left
      subst h0
      simp [bv]
    · obtain ⟨b, off, spot⟩ := a
      obtain ⟨u, hu, hbl⟩ := each 0 (by omega)
      have hspot : spot = none := by simpa [Addr.add] using World.cell?_spot hu
      subst hspot
      refine .inr ⟨b, off, rfl, hbl, fun j hj => ?_⟩
      have hj' : j < len := by simpa [bv_len] using hj
      have := hg j hj'
      rw [add_plain] at this
      rw [this]
      simp [bv]
set_option maxRecDepth 100000 in
theorem trod_ref {fuel : Nat} {cs : List Value} {x : DataW H × List MemPlace} (h : DataW.trod enc Try.prog W 0 (fun _ => true) true fuel 24 cs = some x) :
    ∃ (nb : ByteArray) (A : Option Addr) (c : Nat) (ws : List UInt8), cs = [.string nb, .slice A ws.length c] ∧ Rd W W.heap.size A (bv ws) ∧ ws.length ≤ c ∧ c ≤ maxLen := by
  obtain ⟨y0, y1, m, _, hl, h0, h1⟩ := trod_struct2 Try.underlying24 h
  rw [show Try.prog.cellsOf 24 = 2 by kernel_rfl] at hl
  match cs, hl with
  | [c0, c1], _ =>
  rw [show Try.prog.cellsOf 9 = 1 by kernel_rfl] at h0
  rw [show Try.prog.cellsOf 22 = 1 by kernel_rfl] at h1
  obtain ⟨s, e0, _, _⟩ := DataW.trod_string Try.underlying9 h0
  obtain ⟨A, c, ws, e1, r1, r2, r3⟩ := trod_bytes h1
  simp at e0 e1
  subst e0 e1
  exact ⟨s, A, c, ws, rfl, r1, r2, r3⟩
set_option maxRecDepth 100000 in
theorem trod_default {fuel : Nat} {cs : List Value} {x : DataW H × List MemPlace} (h : DataW.trod enc Try.prog W 0 (fun _ => true) true fuel 30 cs = some x) :
    ∃ (D : Option Addr) (dl dc : Nat) (nul : Bool), cs = [.slice D dl dc] ∧ Dflt W W.heap.size D dl nul := by
  rcases DataW.trod_slice Try.underlying30 h with ⟨rfl, _⟩ | ⟨a, len, cap, elems, rest, n, _, rfl, _, hb, hl, hm, hlen, hel, _, _⟩
  · exact ⟨none, 0, 0, false, rfl, .inl ⟨rfl, rfl⟩⟩
  · by_cases h0 : len = 0
    · exact ⟨some a, len, cap, false, rfl, .inl ⟨h0, rfl⟩⟩
    · have h1 := hel 0 (by omega)
      rw [List.getElem?_eq_getElem (by omega), show Try.prog.cellsOf 36 = 5 by kernel_rfl, Nat.zero_mul, Option.bind_eq_some_iff] at h1
      obtain ⟨cs', hcs, hy'⟩ := h1
      obtain ⟨xs, m, _, _, hcl, hxl, hf⟩ := DataW.trod_struct Try.underlying36 hy'
      have hk := hf 0 _ rfl
      simp only [List.size_toArray, List.length_cons, List.length_nil] at hxl
      rw [List.getElem?_eq_getElem (by omega)] at hk
      obtain ⟨kd, ek, _, _⟩ := DataW.trod_int (k := .u8) (by kernel_rfl) hk
      obtain ⟨_, hcn, hc⟩ := World.cells?_some hcs
      have hc0 := hc 0 (by omega)
      have hbl := World.cells?_block hcs (by omega)
      have e0 : cs'[0]? = some (.int .u8 kd) := by
        match cs', hcn with
        | [c0, c1, c2, c3, c4], _ =>
          have hce : Try.prog.cellsOf 5 = 1 := by kernel_rfl
          change List.take (Try.prog.cellsOf 5) (List.drop 0 [c0, c1, c2, c3, c4]) = _ at ek
          rw [hce] at ek
          simpa using ek
      rw [e0] at hc0
      obtain ⟨b, off, spot⟩ := a
      have hspot : spot = none := by simpa [Addr.add] using World.cell?_spot hc0
      subst hspot
      exact ⟨_, len, cap, kd == 0, rfl, .inr ⟨by omega, b, off, kd, rfl, hbl, by simpa [Addr.add] using hc0, rfl⟩⟩
set_option maxRecDepth 100000 in
theorem trod_input {fuel : Nat} {cs : List Value} {x : DataW H × List MemPlace} (h : DataW.trod enc Try.prog W 0 (fun _ => true) true fuel 33 cs = some x) :
    ∃ (vn tn : ByteArray) (A : Option Addr) (c : Nat) (fa : List UInt8) (vh : Bool) (D : Option Addr) (dl dc : Nat) (nul : Bool) (GA : Option Addr) (gl gc : Nat),
      cs = [.string vn, .string tn, .slice A fa.length c, .bool vh, .slice D dl dc, .slice GA gl gc] ∧ Rd W W.heap.size A (bv fa) ∧ fa.length ≤ c ∧ c ≤ maxLen ∧ Dflt W W.heap.size D dl nul := by
  obtain ⟨xs, m, _, _, hl, hxl, hf⟩ := DataW.trod_struct Try.underlying33 h
  rw [show Try.prog.cellsOf 33 = 6 by kernel_rfl] at hl
  simp only [List.size_toArray, List.length_cons, List.length_nil] at hxl
  match xs, hxl with
  | [x0, x1, x2, x3, x4], _ =>
  match cs, hl with
  | [c0, c1, c2, c3, c4, c5], _ =>
  have g0 := hf 0 _ rfl
  have g1 := hf 1 _ rfl
  have g2 := hf 2 _ rfl
  have g3 := hf 3 _ rfl
  have g4 := hf 4 _ rfl
  change DataW.trod _ _ _ _ _ _ _ 9 (List.take (Try.prog.cellsOf 9) [c0, c1, c2, c3, c4, c5]) = some x0 at g0
  change DataW.trod _ _ _ _ _ _ _ 24 (List.take (Try.prog.cellsOf 24) [c1, c2, c3, c4, c5]) = some x1 at g1
  change DataW.trod _ _ _ _ _ _ _ 4 (List.take (Try.prog.cellsOf 4) [c3, c4, c5]) = some x2 at g2
  change DataW.trod _ _ _ _ _ _ _ 30 (List.take (Try.prog.cellsOf 30) [c4, c5]) = some x3 at g3
  change DataW.trod _ _ _ _ _ _ _ 31 (List.take (Try.prog.cellsOf 31) [c5]) = some x4 at g4
  rw [show Try.prog.cellsOf 9 = 1 by kernel_rfl] at g0
  rw [show Try.prog.cellsOf 24 = 2 by kernel_rfl] at g1
  rw [show Try.prog.cellsOf 4 = 1 by kernel_rfl] at g2
  rw [show Try.prog.cellsOf 30 = 1 by kernel_rfl] at g3
  rw [show Try.prog.cellsOf 31 = 1 by kernel_rfl] at g4
  obtain ⟨s, e0, _, _⟩ := DataW.trod_string Try.underlying9 g0
  obtain ⟨tn, A, c, fa, e1, r1, r2, r3⟩ := trod_ref g1
  obtain ⟨vh, e2, _⟩ := DataW.trod_bool Try.underlying4 g2
  obtain ⟨D, dl, dc, nul, e3, r4⟩ := trod_default g3
  have e4 : ∃ GA gl gc, c5 = Value.slice GA gl gc := by
    rcases DataW.trod_slice Try.underlying31 g4 with ⟨e, _⟩ | ⟨a, len, cap, _, _, _, _, e, _⟩
    · exact ⟨none, 0, 0, by simpa using e⟩
    · exact ⟨some a, len, cap, by simpa using e⟩
  obtain ⟨GA, gl, gc, rfl⟩ := e4
  simp at e0 e1 e2 e3
  obtain ⟨rfl, rfl⟩ := e1
  subst e0 e2 e3
  exact ⟨s, tn, A, c, fa, vh, D, dl, dc, nul, GA, gl, gc, rfl, r1, r2, r3, r4⟩
theorem open_ref {r : Reach} {b0 : Nat} {v : Value} {d : DataW H} {p : List MemPlace} (hv : Value.okWide Try.prog W r b0 24 v) (h : DataW.Trod enc Try.prog W 0 (fun _ => true) true 24 v d p) :
    ∃ (nb : ByteArray) (A : Option Addr) (c : Nat) (ws : List UInt8), v = rf nb A ws.length c ∧ Rd W W.heap.size A (bv ws) ∧ ws.length ≤ c ∧ c ≤ maxLen := by
  obtain ⟨cs, rfl, _⟩ := okWide_struct Try.underlying24 hv
  obtain ⟨fuel, hf⟩ := h
  obtain ⟨nb, A, c, ws, e, r1⟩ := trod_ref hf
  obtain ⟨l⟩ := cs
  simp [Value.cells] at e
  subst e
  exact ⟨nb, A, c, ws, rfl, r1⟩
theorem open_input {r : Reach} {b0 : Nat} {v : Value} {d : DataW H} {p : List MemPlace} (hv : Value.okWide Try.prog W r b0 33 v) (h : DataW.Trod enc Try.prog W 0 (fun _ => true) true 33 v d p) :
    ∃ (vn tn : ByteArray) (A : Option Addr) (c : Nat) (fa : List UInt8) (vh : Bool) (D : Option Addr) (dl dc : Nat) (nul : Bool) (GA : Option Addr) (gl gc : Nat),
      v = inp vn tn A fa.length c vh D dl dc (.slice GA gl gc) ∧ Rd W W.heap.size A (bv fa) ∧ fa.length ≤ c ∧ c ≤ maxLen ∧ Dflt W W.heap.size D dl nul := by
  obtain ⟨cs, rfl, _⟩ := okWide_struct Try.underlying33 hv
  obtain ⟨fuel, hf⟩ := h
  obtain ⟨vn, tn, A, c, fa, vh, D, dl, dc, nul, GA, gl, gc, e, r1⟩ := trod_input hf
  obtain ⟨l⟩ := cs
  simp [Value.cells] at e
  subst e
  exact ⟨vn, tn, A, c, fa, vh, D, dl, dc, nul, GA, gl, gc, rfl, r1⟩
theorem open_bool {t : TypeId} {r : Reach} {b0 : Nat} {v : Value} {d : DataW H} {p : List MemPlace} (ht : Try.prog.underlying t = some .bool) (hv : Value.okWide Try.prog W r b0 t v) (h : DataW.Trod enc Try.prog W 0 (fun _ => true) true t v d p) :
    ∃ b, v = .bool b := by
  simp only [Value.okWide, ht, Cell.okWide] at hv
  cases v <;> simp_all [Cell.ok]
end
end Go.Proofs.Ytgoecnhkmfnenaa
