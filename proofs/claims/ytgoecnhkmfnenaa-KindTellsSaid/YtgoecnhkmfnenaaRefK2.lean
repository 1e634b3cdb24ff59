/- The reference's in, Twin, Bare, Item: in the program's own terms. Conditions: lengths within the model's. -/
import Derived.Test.YtgoecnhkmfnenaaRefK
import Derived.Test.YtgoecnhkmfnenaaItem
import Derived.Test.YtgoecnhkmfnenaaUsable
import Derived.Test.YtgoecnhkmfnenaaApp
import Derived.Deep.RegionHeld3
namespace Go.Proofs.Ytgoecnhkmfnenaa
open Go.RowKit
set_option maxHeartbeats 2000000 in
theorem in_ref (nm : ByteArray) (A : Option Addr) (c : Nat) (a : UInt8) (r : List UInt8) (w : World) {B : Nat} (hx : Rd w B A (bv (a :: r))) (hB : B ≤ w.heap.size) (hc : r.length + 1 ≤ c) (hm : c ≤ maxLen) :
    Calls Try.prog 35 #[.agg #[.string nm, .slice A (r.length + 1) c]] w (InPost nm r w B) := by
  unfold maxLen at hm
  obtain ⟨b, off, rfl, hb, hcell⟩ := hx.byte (k := 0) (by simp)
  clear hcell
  have HX := Lib.hid hx
  have hb0 : Below w.heap.size w ((w.alloc (.cells #[.string nm, .slice (some ⟨b, off, none⟩) (r.length + 1) c] 24)).alloc (.cells #[.string ⟨#[]⟩, .slice none 0 0] 24)) := ((Below.refl _ _).alloc (Nat.le_refl _) _).alloc (by simp) _
  have hS0 := S2.new w (.string nm) (.slice (some ⟨b, off, none⟩) (r.length + 1) c) 24 (.cells #[.string ⟨#[]⟩, .slice none 0 0] 24)
  have HB := Lib.hid hb0
  clear hx hb0
  by_cases hc1 : c = 1
  · subst hc1
    obtain rfl : r = [] := List.eq_nil_of_length_eq_zero (by omega)
    go_enter Try.func35, Try.ntmps35
    go_wp2
    go_region
    go_wp2
    refine bodyPost_ret (v := .agg #[.string nm, .slice (some ⟨b, off, none⟩) 0 0]) (by simp [results, Try.results35, go_sem]) rfl ?_
    have hw' := fun (v : Value) => (((Below.refl w.heap.size w).alloc (Nat.le_refl _) (.cells #[.string nm, .slice (some ⟨b, off, none⟩) 1 1] 24)).alloc (by simp) (.cells #[.string nm, v] 24)).drew
    exact ⟨_, _, rfl, by simp, by unfold maxLen; omega, Rd.nil, hw' _⟩
  · have hc2 : ¬ (c : Int) = 1 := by omega
    go_enter Try.func35, Try.ntmps35
    go_wp2
    go_region
    go_wp2
    refine bodyPost_ret (v := .agg #[.string nm, .slice (some ⟨b, off + 1, none⟩) r.length (c - 1)]) (by simp [results, Try.results35, go_sem]) rfl ?_
    have hw := fun (v : Value) => (((Below.refl w.heap.size w).alloc (Nat.le_refl _) (.cells #[.string nm, .slice (some ⟨b, off, none⟩) (r.length + 1) c] 24)).alloc (by simp) (.cells #[.string nm, v] 24)).drew
    exact ⟨_, _, rfl, by omega, by unfold maxLen; omega, (HX.out.tail).thru (hw _) hB, hw _⟩
set_option maxHeartbeats 4000000 in
theorem twin_ref (nm : ByteArray) (A : Option Addr) (c : Nat) (ws : List UInt8) (w : World) {B : Nat} (hx : Rd w B A (bv ws)) (hB : B ≤ w.heap.size) (hn : ws.length ≤ 140737488351232) :
    Calls Try.prog 19 #[.agg #[.string nm, .slice A ws.length c]] w (TwinX nm ws w) := by
  obtain ⟨i0, hi, hz0, hz1, hz2⟩ := info_parts info_u8
  have hb0 : Below w.heap.size w ((w.alloc (.cells #[.string nm, .slice A ws.length c] 24)).alloc (.cells #[.string ⟨#[]⟩, .slice none 0 0] 24)) := ((Below.refl _ _).alloc (Nat.le_refl _) _).alloc (by simp) _
  have hx0 := hx.thru hb0 hB
  have hS0 := S2.new w (.string nm) (.slice A ws.length c) 24 (.cells #[.string ⟨#[]⟩, .slice none 0 0] 24)
  have hS4 := S4.new w (.string nm) (.slice A ws.length c) (.string ⟨#[]⟩) (.slice none 0 0) 24
  have hS4z : ∀ o, ((w.alloc (.cells #[.string nm, .slice A ws.length c] 24)).alloc (.cells #[.string ⟨#[]⟩, .slice none 0 0] 24)).frozen? ⟨w.heap.size + 1, o, none⟩ = false := fun o => World.frozen?_alloc_at _ _ _ _ (by simp)
  have hSz : w.heap.size + 1 < ((w.alloc (.cells #[.string nm, .slice A ws.length c] 24)).alloc (.cells #[.string ⟨#[]⟩, .slice none 0 0] 24)).heap.size := by simp
  obtain ⟨W0, hW0⟩ : ∃ W0, ((w.alloc (.cells #[.string nm, .slice A ws.length c] 24)).alloc (.cells #[.string ⟨#[]⟩, .slice none 0 0] 24)) = W0 := ⟨_, rfl⟩
  rw [hW0] at hb0 hx0 hS0 hS4 hS4z hSz
  go_enter Try.func19, Try.ntmps19
  go_wp2
  clear hW0
  go_region_held3 (fun w' => w'.cell? ⟨w.heap.size, 0, none⟩ = some (.string nm) ∧ w'.cell? ⟨w.heap.size, 1, none⟩ = some (.slice A ws.length c)) (first | exact hS0 | exact hS1 | go_keep)
    (first
      | ((refine step_append_rd (by rfl) _ _ _ (by rfl) W0.heap.size 5 i0 (.int .u8 0) 1 Try.underlying22 hi hz0 hz1 hz2 (by rfl) (.slice none 0 0) 0 [] (by rfl) (World.ownsRow_nil _ _ _ _) (B := B) A ws.length c (bv ws) (by rfl) (by exact hx0) (bv_len ws) (bv_one ws) (by unfold maxLen; omega) (by omega) (by exact Nat.le_refl _) ?_; intro v1 w1 hown hgrow _; have hb1 : Below W0.heap.size W0 w1 := Below.grown (Below.refl W0.heap.size W0).drew hgrow (by exact Nat.le_refl _) (fun k hk => by cases hk); have hS1 := S2.keep hb1 hS0 (Nat.lt_of_succ_lt hSz); obtain ⟨_, _, t0, t1⟩ := S4.keep hb1 hS4 hSz; obtain ⟨f0, f1⟩ := fz2 hb1 hS4z hSz; simp only [Nat.zero_add, List.nil_append] at hown; obtain ⟨A', c', rfl, hd1, hd2⟩ := own_slice hown)))
  go_wp2
  have hw : Below w.heap.size w w1 := hb0.trans (hb1.mono hb0.size)
  refine bodyPost_ret (v := .agg #[.string nm, .slice A' ws.length c']) (by simp [results, Try.results19, go_sem, t0, t1]) rfl ⟨A', c', rfl, ?_, (hw.setCell (by simp) _).setCell (by simp) _⟩
  unfold OwnB
  exact own_base (ownsRow_setCell_below (ownsRow_setCell_below hown (by omega) _) (by omega) _) hb0.size
end Go.Proofs.Ytgoecnhkmfnenaa
