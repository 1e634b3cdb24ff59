/- slices.Backward over bytes: what it hands back goes through them from the end. Conditions: the loop's body keeps all cells but one block's. -/
import Derived.RangeFuncNested
import Derived.RangeFuncBound
import Derived.RangeFuncCalls
import Derived.RangeFuncLeaves
import Derived.Shelf.Abstract
import Derived.Shelf.RegionOpen
import Derived.WalkKit
import Derived.OwnWalkIn
import Derived.TacticsInMore
import Derived.LoopNIn
import Derived.LoopIn
import Derived.Test.YtgoecnhkmfnenaaFits
namespace Go.Proofs.Ytgoecnhkmfnenaa
open Go.RowKit Go.Shelf
attribute [local go_sem] Oper.semAt_some
theorem backward_any (A : Option Addr) (n c : Nat) (w : World) :
    Calls Try.prog 29 #[.slice A n c] w fun e w' => e = .returned (.func (.func 40) #[] #[.pointer (some ⟨w.heap.size, 0, none⟩)]) ∧ w' = w.alloc (.cells #[.slice A n c] 22) := by
  go_enter Try.func29, Try.ntmps29
  go_wp2
  go_ret
  exact ⟨rfl, rfl⟩
/-- every cell but those of block g is as it was -/
def KeepC (g : Nat) (A B : World) : Prop := ∀ (a : Addr) (v : Value), a.block ≠ g → A.cell? a = some v → B.cell? a = some v
theorem keepC_t {g : Nat} {A B C : World} (h : KeepC g A B) (k : KeepC g B C) : KeepC g A C := fun a v ha hc => k a v ha (h a v ha hc)
theorem keepC_b {g : Nat} {w : World} (W : World) (l : Nat) (o o' : Obj) (_ : w.heap.size ≤ l) (h : W.heap[l]? = some o) (ho : o.isCells = false) (_ : o.isWalk = false) : KeepC g W (W.putObj l o') :=
  fun _ _ _ hc => cell_kept hc (grownBy_putObj' W l o') (fun r e => by cases e; exact ⟨o, h, ho⟩)
abbrev Bt := { x : Int × UInt8 // x.2 = 1 ∨ x.2 = 2 }
def encB (x : Bt) : Array Value := #[.int .i64 x.1.1, .int .u8 x.1.2.toNat]
set_option maxRecDepth 100000 in
set_option maxHeartbeats 2000000 in
theorem back_stops (F : Fence) (n : Nat) (hF : F.fn 40) (hro : F.round = none) (hn : 1 ≤ n) (Bs g B : Nat) (A : Option Addr) (c : Nat) (ws : List UInt8) (hws : ∀ x ∈ ws, x = 1 ∨ x = 2) (hlen : ws.length ≤ 8) (hc8 : ws.length ≤ c) (w : World)
    (hBs : w.cell? ⟨Bs, 0, none⟩ = some (.slice A ws.length c)) (hne : Bs ≠ g) (hx : Rd w B A (bv ws)) (hB : B ≤ g) :
    SeqStopsK F n Try.prog 40 #[.pointer (some ⟨Bs, 0, none⟩)] encB (KeepC g) (fun _ => True) (fun _ => True) ws.length w := fun l J Jx W hW hJ hJx hY h0 => by
  refine callsIn_of_wp Try.func40 rfl hF ?_ hro
  simp only [Try.ntmps40, List.size_toArray, List.length_cons, List.length_nil, Nat.reduceAdd, Nat.reduceSub, Array.replicate_succ, Array.replicate_zero, List.push_toArray, List.append_toArray, List.nil_append, List.cons_append]
  have cB : W.cell? ⟨Bs, 0, none⟩ = some (.slice A ws.length c) := (hW.cell (p := ⟨Bs, 0, none⟩) (World.block_lt_of_cell? w _ hBs)).trans hBs
  have hcs : ∀ j, (h : j < ws.length) → ∃ b off, A = some ⟨b, off, none⟩ ∧ b ≠ g ∧ W.cell? ⟨b, off + j, none⟩ = some (.int .u8 ws[j].toNat) := by
    intro j hj
    obtain ⟨b, off, e, hb, hcc⟩ := hx.byte hj
    have h1 := hcc j hj
    exact ⟨b, off, e, by omega, (hW.cell (p := ⟨b, off + j, none⟩) (World.block_lt_of_cell? w _ h1)).trans h1⟩
  have HC := Lib.hid hcs
  have HY := Lib.hid hY
  clear hcs hY hx hBs hW
  gi_wp2
  gi_loopw [3] (fun i wr => ∃ k : Nat, i = .int .i64 ((k : Int) - 1) ∧ k ≤ ws.length ∧ KeepC g W wr ∧ ∃ pre : List Bt, pre.length + k = ws.length ∧ J pre wr) (fun i _ => (intOf i + 1).toNat)
  case atStart => exact ⟨ws.length, rfl, Nat.le_refl _, fun _ _ _ h => h, [], by simp, h0⟩
  case round =>
    obtain ⟨k, rfl, hk, hkeep, pre, hpre, hJs⟩ := hrel
    cases k with
    | zero =>
      gi_wp2
      go_end0
      exact ⟨⟨_, rfl⟩, .inl ⟨_, trivial, hJs⟩⟩
    | succ k =>
      obtain ⟨b, off, rfl, hbg, hcell⟩ := HC.out k (by omega)
      have cB2 := hkeep _ _ (by exact hne) cB
      have cx := hkeep _ _ (by exact hbg) hcell
      have hkI : (k : Int) + 1 - 1 = k := by omega
      obtain ⟨fn, tmps, assign, body, hy, hR⟩ := HY.out pre ⟨((k : Int), ws[k]), hws _ (List.getElem_mem _)⟩ wr hJs (by omega)
      dsimp only [encB] at hy
      rw [show (((k + 1 : Nat) : Int) - 1) = (k : Int) by omega]
      have hk2 : (k : Int) < ws.length := by omega
      gi_wp2
      refine hR.mono ?_
      rintro e W3 (⟨rfl, hJ3, hk3⟩ | ⟨rfl, hJx3⟩)
      · gi_wp2
        go_roundw
        case rel => exact ⟨k, by go_num, by omega, keepC_t hkeep hk3, _, by simp; omega, hJ3⟩
        case measure => simp [intOf] <;> omega
      · gi_wp2
        refine bodyPost_ret (results_none rfl _ _ _) rfl ?_
        exact ⟨⟨_, rfl⟩, .inr ⟨_, trivial, hJx3⟩⟩
end Go.Proofs.Ytgoecnhkmfnenaa
