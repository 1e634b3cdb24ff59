/- Contracts of small functions over types: a copy in new memory, a type bare. Conditions: lengths within the model's. -/
import Derived.Test.YtgoecnhkmfnenaaFits
import Derived.Test.YtgoecnhkmfnenaaShelf
import Derived.WalkSpells
namespace Go.Proofs.Ytgoecnhkmfnenaa
open Go.RowKit

theorem info_u8 : (Try.prog.info? 5).map (fun i => (i.zero, i.size, i.bytes)) = some (some (.int .u8 0), 1, 1) := by kernel_rfl
theorem bv_one (ws : List UInt8) : ∀ u ∈ bv ws, u.oneCell' = true := by
  intro u hu
  simp [bv] at hu
  obtain ⟨b, _, rfl⟩ := hu
  rfl
def OwnB (w : World) (base : Nat) (v : Value) (ws : List UInt8) : Prop := w.ownsRow base 5 1 v ws.length (bv ws)
theorem clone_any (A : Option Addr) (c : Nat) (ws : List UInt8) (w : World) {E : Nat} (hx : Rd w E A (bv ws)) (hn : ws.length ≤ 140737488351232) :
    Calls Try.prog 37 #[.slice A ws.length c] w fun e w' => ∃ v, e = .returned v ∧ OwnB w' w.heap.size v ws ∧ Below w.heap.size w w' := by
  by_cases h0 : ws = []
  · subst h0
    rcases A with _ | a
    · refine (Try.slices_Clone_nil _ _ w).mono ?_
      rintro e w' ⟨rfl, rfl⟩
      exact ⟨_, rfl, ⟨rfl, .inl ⟨rfl, rfl⟩⟩, Below.refl _ _⟩
    · obtain ⟨i0, hi, hz0, hz1, hz2⟩ := info_parts info_u8
      have hq : ∀ (w : World) (a : Option Addr) (n c n' c' : Nat), (binOp .eql 22 (.slice a n c) (.slice none n' c')).run Try.prog w = .ok (.bool a.isNone) w := fun w a n c n' c' => Lib.run_eql_slice_nil w _ _ a n c n' c' Try.underlying22
      go_enter Try.func37, Try.ntmps37
      go_wp2_with (at_builtin; refine wpList_append_own _ rfl _ _ 22 rfl w.heap.size 5 i0 (.int .u8 0) 1 1 Try.underlying22 hi hz0 hz1 hz2 rfl (by decide) _ _ _ rfl (World.ownsRow_made w #[] 0 (Nat.le_refl _) (Nat.zero_le _) rfl) a 0 c [] rfl rfl (by intro j u hj; simp at hj) (by intro u hu; cases hu) (by unfold maxLen; omega) (by omega) (by simp) ?_)
      intro v' w1 hown hgrow hnil
      go_wp2
      go_ret
      exact ⟨v', rfl, by simpa [OwnB, bv] using hown, ((Below.refl _ w).alloc (Nat.le_refl _) _).grown hgrow (by simp) (by intro k hk; simp [Value.ownBlock] at hk; omega)⟩
  · obtain ⟨b, off, rfl, hb, hc⟩ := hx.at' (k := 0) (by rw [bv_len]; exact List.length_pos_iff.2 h0)
    obtain ⟨i0, hi, hz0, hz1, hz2⟩ := info_parts info_u8
    refine (Try.slices_Clone i0 (.int .u8 0) 1 1 hi hz0 hz1 hz2 rfl (by omega) (fun w => by kernel_rfl) b off ws.length c (bv ws) w (by rw [bv_len]; omega) (by unfold maxLen; omega) (by omega) (fun j u hu => ?_) (bv_one ws)).mono ?_
    · obtain ⟨hj, rfl⟩ := List.getElem?_eq_some_iff.1 hu
      exact hc j hj
    · rintro e w' ⟨v, rfl, h1, _, h2⟩
      exact ⟨_, rfl, h1, h2⟩

def S2 (g : Nat) (x0 x1 : Value) (w : World) : Prop := w.cell? ⟨g, 0, none⟩ = some x0 ∧ w.cell? ⟨g, 1, none⟩ = some x1
theorem S2.keep {g : Nat} {x0 x1 : Value} {w w1 : World} (hb : Below w.heap.size w w1) (h : S2 g x0 x1 w) (hg : g < w.heap.size) :
    w1.cell? ⟨g, 0, none⟩ = some x0 ∧ w1.cell? ⟨g, 1, none⟩ = some x1 :=
  ⟨(hb.cell (p := ⟨g, 0, none⟩) hg).trans h.1, (hb.cell (p := ⟨g, 1, none⟩) hg).trans h.2⟩
theorem S2.new (w : World) (x0 x1 : Value) (t : TypeId) (o : Obj) : S2 w.heap.size x0 x1 ((w.alloc (.cells #[x0, x1] t)).alloc o) := by
  constructor
  · rw [World.cell?_alloc_past _ _ _ (by simp), World.cell?_alloc_at _ _ _ _ rfl]; rfl
  · rw [World.cell?_alloc_past _ _ _ (by simp), World.cell?_alloc_at _ _ _ _ rfl]; rfl

theorem fz2 {g : Nat} {w w1 : World} (hb : Below w.heap.size w w1) (h : ∀ o, w.frozen? ⟨g, o, none⟩ = false) (hg : g < w.heap.size) : w1.frozen? ⟨g, 0, none⟩ = false ∧ w1.frozen? ⟨g, 1, none⟩ = false :=
  ⟨(hb.frozen (p := ⟨g, 0, none⟩) hg).trans (h 0), (hb.frozen (p := ⟨g, 1, none⟩) hg).trans (h 1)⟩
/-- a type in new memory -/
def TwinPost (nm : ByteArray) (ws : List UInt8) (w : World) (e : Ending) (w' : World) : Prop :=
  ∃ A' c', e = .returned (rf nm A' ws.length c') ∧ OwnB w' w.heap.size (.slice A' ws.length c') ws ∧ Below w.heap.size w w'

set_option maxHeartbeats 2000000 in
theorem twin_any (nm : ByteArray) (A : Option Addr) (c : Nat) (ws : List UInt8) (w : World) {B : Nat} (hx : Rd w B A (bv ws)) (hB : B ≤ w.heap.size) (hn : ws.length ≤ 140737488351232) :
    Calls Try.prog 26 #[rf nm A ws.length c] w (TwinPost nm ws w) := by
  unfold rf
  have hb0 : Below w.heap.size w ((w.alloc (.cells #[.string nm, .slice A ws.length c] 24)).alloc (.cells #[.string ⟨#[]⟩, .slice none 0 0] 24)) := ((Below.refl _ _).alloc (Nat.le_refl _) _).alloc (by simp) _
  have hx0 := hx.thru hb0 hB
  have hS0 := S2.new w (.string nm) (.slice A ws.length c) 24 (.cells #[.string ⟨#[]⟩, .slice none 0 0] 24)
  have hS4 := S4.new w (.string nm) (.slice A ws.length c) (.string ⟨#[]⟩) (.slice none 0 0) 24
  have hS4z : ∀ o, ((w.alloc (.cells #[.string nm, .slice A ws.length c] 24)).alloc (.cells #[.string ⟨#[]⟩, .slice none 0 0] 24)).frozen? ⟨w.heap.size + 1, o, none⟩ = false := fun o => World.frozen?_alloc_at _ _ _ _ (by simp)
  have hSz : w.heap.size + 1 < ((w.alloc (.cells #[.string nm, .slice A ws.length c] 24)).alloc (.cells #[.string ⟨#[]⟩, .slice none 0 0] 24)).heap.size := by simp
  go_enter Try.func26, Try.ntmps26
  go_wp2
  go_region_held3 (fun w' => w'.cell? ⟨w.heap.size, 0, none⟩ = some (.string nm) ∧ w'.cell? ⟨w.heap.size, 1, none⟩ = some (.slice A ws.length c)) (first | exact hS0 | exact hS1 | go_keep)
    (first
      | (go_at_call 37; (with_reducible refine (clone_any (E := B) A c ws _ ?_ hn).mono ?_); exact hx0; rintro e w1 ⟨v1, rfl, hown, hb1⟩; have hS1 := S2.keep hb1 hS0 (Nat.lt_of_succ_lt hSz); obtain ⟨_, _, t0, t1⟩ := S4.keep hb1 hS4 hSz; obtain ⟨f0, f1⟩ := fz2 hb1 hS4z hSz; obtain ⟨A', c', rfl, hd1, hd2⟩ := own_slice hown))
  go_wp2
  have hw : Below w.heap.size w w1 := (hb0.drew).trans (hb1.mono hb0.size)
  refine bodyPost_ret (v := rf nm A' ws.length c') (by simp [results, Try.results26, go_sem, t0, t1, rf]) rfl ⟨A', c', rfl, ?_, (hw.setCell (by simp) _).setCell (by simp) _⟩
  unfold OwnB at hown ⊢
  exact own_base (ownsRow_setCell_below (ownsRow_setCell_below hown (by simp) _) (by simp) _) hb0.size
end Go.Proofs.Ytgoecnhkmfnenaa
