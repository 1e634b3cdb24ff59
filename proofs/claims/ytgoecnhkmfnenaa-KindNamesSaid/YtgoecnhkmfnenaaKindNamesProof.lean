/- KindNames: the classes' numbers, and the chapter's examples. Conditions: none. -/
import Derived.Test.YtgoecnhkmfnenaaRows
import Derived.Test.YtgoecnhkmfnenaaClass
import Derived.Test.YtgoecnhkmfnenaaUsable
import Derived.Test.YtgoecnhkmfnenaaNewR
import Derived.Test.YtgoecnhkmfnenaaKOpen
import Derived.ProofKit
import Derived.Deep.RegionHeld3
import Derived.Deep.DeepCutAuto
namespace Go.Proofs.Ytgoecnhkmfnenaa.kindNames
open Go.RowKit
/-- the chapter's definitions -/
def ds3 : List (UInt8 × ByteArray) := [(2, ⟨#[65]⟩), (1, ⟨#[65]⟩), (3, ⟨#[84]⟩)]
def row3 : Array Value := #[.int .u8 2, .string ⟨#[65]⟩, .slice none 0 0, .slice none 0 0, .slice none 0 0, .slice none 0 0, .int .u8 1, .string ⟨#[65]⟩, .slice none 0 0, .slice none 0 0, .slice none 0 0, .slice none 0 0, .int .u8 3, .string ⟨#[84]⟩, .slice none 0 0, .slice none 0 0, .slice none 0 0, .slice none 0 0]
theorem row3_rd (w : World) : DRd (w.alloc (.cells row3 46)) (w.heap.size + 1) (some ⟨w.heap.size, 0, none⟩) ds3 := by
  refine .inr ⟨w.heap.size, 0, rfl, by omega, fun k hk => ?_⟩
  have hk3 : k < 3 := hk
  have hc : ∀ o, (w.alloc (.cells row3 46)).cell? ⟨w.heap.size, o, none⟩ = row3[o]? := fun o => World.cell?_alloc_at _ _ _ _ rfl
  simp only [hc]
  match k, hk3 with
  | 0, _ => exact ⟨rfl, rfl, ⟨_, _, _, rfl⟩, ⟨_, _, _, rfl⟩, ⟨_, _, _, rfl⟩, ⟨_, _, _, rfl⟩⟩
  | 1, _ => exact ⟨rfl, rfl, ⟨_, _, _, rfl⟩, ⟨_, _, _, rfl⟩, ⟨_, _, _, rfl⟩, ⟨_, _, _, rfl⟩⟩
  | 2, _ => exact ⟨rfl, rfl, ⟨_, _, _, rfl⟩, ⟨_, _, _, rfl⟩, ⟨_, _, _, rfl⟩, ⟨_, _, _, rfl⟩⟩
theorem cls_call (g : Nat) (s : ByteArray) (a b : Int) (w : World) (hx : DRd w (g + 1) (some ⟨g, 0, none⟩) ds3) (hg : g + 1 ≤ w.heap.size) (h : clsV ds3 s = (a, b)) :
    Calls Try.prog 15 #[.slice (some ⟨g, 0, none⟩) 3 3, .string s] w fun e w' => e = .returned (.tuple #[.int .u8 a, .int .i64 b]) ∧ Below w.heap.size w w' := by
  have := class_any (some ⟨g, 0, none⟩) 3 ds3 s w hx hg (by decide)
  rw [h] at this
  exact this
theorem v1 : clsV ds3 ⟨#[65]⟩ = (3, 0) := by decide
theorem v2 : clsV ds3 ⟨#[84]⟩ = (4, 2) := by decide
theorem v3 : clsV ds3 ⟨#[85, 85, 73, 68]⟩ = (1, 6) := by decide
theorem v4 : clsV ds3 ⟨#[88]⟩ = (0, 0) := by decide
theorem refL (A : Option Addr) (n c : Nat) (w : World) : Calls Try.prog 16 #[.slice A n c] w fun e w' => e = .returned (.agg #[.string ⟨#[73, 110, 116]⟩, .slice A n c]) ∧ Below w.heap.size w w' :=
  ref_any _ A n c w rfl
theorem rd_litD {w w1 : World} (hb : Below (w.alloc (.cells #[.int .u8 1] 5)).drew.heap.size (w.alloc (.cells #[.int .u8 1] 5)).drew w1) : Rd w1 w1.heap.size (some ⟨w.heap.size, 0, none⟩) (bv [1]) :=
  (rd_lit (w := w) (w1 := w1) (arr := #[.int .u8 1]) (L := bv [1]) rfl ((Below.refl _ _).drew.trans hb)).1
theorem wend {w7 W X : World} (h : Below w7.heap.size w7 W) (hb : Below W.heap.size W X) : Below w7.heap.size w7 X := h.trans (hb.mono h.size)
set_option maxHeartbeats 8000000 in
set_option maxRecDepth 100000 in
theorem walk (w : World) : Calls Try.prog 6 #[] w fun e w' => e = .returned (.bool true) ∧ Below w.heap.size w w' := by
  go_enter Try.func6, Try.ntmps6
  go_wp2_with fail
  have hr0 := row3_rd w
  have hb0 : Below w.heap.size w (w.alloc (.cells row3 46)) := (Below.refl _ _).alloc (Nat.le_refl _) _
  refine (cls_call w.heap.size ⟨#[65]⟩ 3 0 _ hr0 (by simp) v1).mono ?_
  rintro e w1 ⟨rfl, b1⟩
  have hr1 := DRd.via b1 hr0 (by simp)
  have h1 := hb0.trans (b1.mono hb0.size)
  have s1 : w.heap.size + 1 ≤ w1.heap.size := by have := b1.size; simpa using this
  clear hb0 hr0 b1
  go_wp2_with fail
  refine (cls_call w.heap.size ⟨#[84]⟩ 4 2 _ hr1 s1 v2).mono ?_
  rintro e w2 ⟨rfl, b2⟩
  have hr2 := DRd.via b2 hr1 s1
  have h2 := h1.trans (b2.mono h1.size)
  have s2 := Nat.le_trans s1 b2.size
  clear h1 hr1 b2 s1
  go_wp2_with fail
  refine (cls_call w.heap.size ⟨#[85, 85, 73, 68]⟩ 1 6 _ hr2 s2 v3).mono ?_
  rintro e w3 ⟨rfl, b3⟩
  have hr3 := DRd.via b3 hr2 s2
  have h3 := h2.trans (b3.mono h2.size)
  have s3 := Nat.le_trans s2 b3.size
  clear h2 hr2 b3 s2
  go_wp2_with fail
  refine (cls_call w.heap.size ⟨#[88]⟩ 0 0 _ hr3 s3 v4).mono ?_
  rintro e w4 ⟨rfl, b4⟩
  have h4 := h3.trans (b4.mono h3.size)
  clear h3 hr3 b4 s3
  go_wp2_with fail
  refine (refL none 0 0 _).mono ?_
  rintro e w5 ⟨rfl, b5⟩
  have s4 := h4.size
  have hc5 : w5.cell? ⟨w4.heap.size, 0, none⟩ = some (.int .u8 2) := (b5.cell (p := ⟨w4.heap.size, 0, none⟩) (by simp)).trans (World.cell?_alloc_at _ _ _ _ rfl)
  have h5 : Below w.heap.size w w5 := (h4.alloc s4 _).trans (b5.mono (h4.alloc s4 _).size)
  have z5 : w4.heap.size < w5.heap.size := by have := b5.size; simp at this; omega
  clear b5
  go_wp2_with fail
  refine (refL none 0 0 _).mono ?_
  rintro e w6 ⟨rfl, b6⟩
  have hc6 : w6.cell? ⟨w4.heap.size, 0, none⟩ = some (.int .u8 2) := (b6.cell (p := ⟨w4.heap.size, 0, none⟩) (by simp; omega)).trans ((World.cell?_alloc_past _ _ _ (by first | omega | (simp; done) | (simp; omega) | exact z5)).trans hc5)
  have h6 : Below w.heap.size w w6 := (h5.alloc h5.size _).trans (b6.mono (h5.alloc h5.size _).size)
  have z6 : w5.heap.size < w6.heap.size := by have := b6.size; simp at this; omega
  have k0 : ∀ o v, (w5.alloc (.cells #[.string ⟨#[118]⟩, .string ⟨#[73, 110, 116]⟩, .slice none 0 0, .bool true, .slice (some ⟨w4.heap.size, 0, none⟩) 1 1, .slice none 0 0] 33)).cell? ⟨w5.heap.size, o, none⟩ = some v → w6.cell? ⟨w5.heap.size, o, none⟩ = some v := fun o v h => (b6.cell (p := ⟨w5.heap.size, o, none⟩) (by simp)).trans h
  have e0 := k0 0 _ (World.cell?_alloc_at _ _ _ _ rfl)
  have e1 := k0 1 _ (World.cell?_alloc_at _ _ _ _ rfl)
  have e2 := k0 2 _ (World.cell?_alloc_at _ _ _ _ rfl)
  have e3 := k0 3 _ (World.cell?_alloc_at _ _ _ _ rfl)
  have e4 := k0 4 _ (World.cell?_alloc_at _ _ _ _ rfl)
  have e5 := k0 5 _ (World.cell?_alloc_at _ _ _ _ rfl)
  clear b6 k0
  go_upto_region 9 with fail
  obtain ⟨w7, hw7⟩ : ∃ w7, (w6.alloc (.cells #[.int .u8 0, .string ⟨#[]⟩, .string ⟨#[]⟩, .int .i64 0, .int .i64 0] 36)).alloc (.cells #[.string ⟨#[118]⟩, .string ⟨#[73, 110, 116]⟩, .slice none 0 0, .bool true, .slice (some ⟨w6.heap.size, 0, none⟩) 1 1, .slice none 0 0] 33) = w7 := ⟨_, rfl⟩
  rw [hw7]
  have h7 : Below w6.heap.size w6 w7 := by subst hw7; exact ((Below.refl _ _).alloc (Nat.le_refl _) _).alloc (by simp) _
  have z7 : w7.heap.size = w6.heap.size + 2 := by subst hw7; simp
  have kk : ∀ b o v, b < w6.heap.size → w6.cell? ⟨b, o, none⟩ = some v → w7.cell? ⟨b, o, none⟩ = some v := fun b o v h hc => (h7.cell (p := ⟨b, o, none⟩) h).trans hc
  have hc7 := kk _ _ _ (by omega) hc6
  replace e0 := kk _ _ _ z6 e0
  replace e1 := kk _ _ _ z6 e1
  replace e2 := kk _ _ _ z6 e2
  replace e3 := kk _ _ _ z6 e3
  replace e4 := kk _ _ _ z6 e4
  replace e5 := kk _ _ _ z6 e5
  have n0 : w7.cell? ⟨w6.heap.size, 0, none⟩ = some (.int .u8 0) := by subst hw7; rw [World.cell?_alloc_past _ _ _ (by simp), World.cell?_alloc_at _ _ _ _ rfl]; rfl
  have ff : ∀ o, w7.cell? ⟨w6.heap.size + 1, o, none⟩ = (#[.string ⟨#[118]⟩, .string ⟨#[73, 110, 116]⟩, .slice none 0 0, .bool true, .slice (some ⟨w6.heap.size, 0, none⟩) 1 1, .slice none 0 0])[o]? := fun o => by subst hw7; exact World.cell?_alloc_at _ _ _ _ (by simp)
  have f0 := ff 0
  have f1 := ff 1
  have f2 := ff 2
  have f3 := ff 3
  have f4 := ff 4
  have f5 := ff 5
  simp at f0 f1 f2 f3 f4 f5
  have hdv : Dflt w7 w7.heap.size (some ⟨w4.heap.size, 0, none⟩) 1 false := .inr ⟨Nat.one_pos, _, _, 2, rfl, by omega, hc7, rfl⟩
  have hdn : Dflt w7 w7.heap.size (some ⟨w6.heap.size, 0, none⟩) 1 true := .inr ⟨Nat.one_pos, _, _, 0, rfl, by omega, n0, rfl⟩
  have hw : Below w.heap.size w w7 := h6.trans (h7.mono h6.size)
  have S8 : ∀ {W : World}, Below w7.heap.size w7 W → W.cell? ⟨w5.heap.size, 0, none⟩ = some (.string ⟨#[118]⟩) ∧ W.cell? ⟨w5.heap.size, 1, none⟩ = some (.string ⟨#[73, 110, 116]⟩) ∧ W.cell? ⟨w5.heap.size, 2, none⟩ = some (.slice none 0 0) ∧ W.cell? ⟨w5.heap.size, 3, none⟩ = some (.bool true) ∧ W.cell? ⟨w5.heap.size, 4, none⟩ = some (.slice (some ⟨w4.heap.size, 0, none⟩) 1 1) ∧ W.cell? ⟨w5.heap.size, 5, none⟩ = some (.slice none 0 0) ∧ W.cell? ⟨w6.heap.size + 1, 0, none⟩ = some (.string ⟨#[118]⟩) ∧ W.cell? ⟨w6.heap.size + 1, 1, none⟩ = some (.string ⟨#[73, 110, 116]⟩) ∧ W.cell? ⟨w6.heap.size + 1, 2, none⟩ = some (.slice none 0 0) ∧ W.cell? ⟨w6.heap.size + 1, 3, none⟩ = some (.bool true) ∧ W.cell? ⟨w6.heap.size + 1, 4, none⟩ = some (.slice (some ⟨w6.heap.size, 0, none⟩) 1 1) ∧ W.cell? ⟨w6.heap.size + 1, 5, none⟩ = some (.slice none 0 0) := fun h =>
    have q : ∀ b o v, b < w7.heap.size → w7.cell? ⟨b, o, none⟩ = some v → _ := fun b o v hb hc => (h.cell (p := ⟨b, o, none⟩) hb).trans hc
    ⟨q _ _ _ (by omega) e0, q _ _ _ (by omega) e1, q _ _ _ (by omega) e2, q _ _ _ (by omega) e3, q _ _ _ (by omega) e4, q _ _ _ (by omega) e5, q _ _ _ (by omega) f0, q _ _ _ (by omega) f1, q _ _ _ (by omega) f2, q _ _ _ (by omega) f3, q _ _ _ (by omega) f4, q _ _ _ (by omega) f5⟩
  have mono : ∀ {D : Option Addr} {b : Bool} {W : World} {B B' : Nat}, B ≤ B' → Dflt W B D 1 b → Dflt W B' D 1 b := fun hB h => by
    rcases h with h | ⟨h0, b, off, kd, e, h1, h2⟩
    · exact .inl h
    · exact .inr ⟨h0, b, off, kd, e, Nat.lt_of_lt_of_le h1 hB, h2⟩
  have uA : ∀ (W : World) (g : Nat), Below w7.heap.size w7 W → Rd W W.heap.size (some ⟨g, 0, none⟩) (bv [1]) → Calls Try.prog 13 #[.agg #[.string ⟨#[118]⟩, .string ⟨#[73, 110, 116]⟩, .slice none 0 0, .bool true, .slice (some ⟨w4.heap.size, 0, none⟩) 1 1, .slice none 0 0], .agg #[.string ⟨#[73, 110, 116]⟩, .slice (some ⟨g, 0, none⟩) 1 1], .bool false] W fun e w' => e = .returned (.bool true) ∧ Below W.heap.size W w' := fun W g h hr => by
    have := usable_any ⟨#[118]⟩ ⟨#[73, 110, 116]⟩ ⟨#[73, 110, 116]⟩ none (some ⟨w4.heap.size, 0, none⟩) (some ⟨g, 0, none⟩) 0 1 1 1 (.slice none 0 0) [] [1] true false false W (B := W.heap.size) Rd.nil hr (mono h.size (hdv.keep h (Nat.le_refl _))) (Nat.le_refl _) (Nat.le_refl _) le0 (Nat.le_refl _) le1 (by decide)
    exact this
  have uB : ∀ (W : World) (g : Nat), Below w7.heap.size w7 W → Rd W W.heap.size (some ⟨g, 0, none⟩) (bv [1]) → Calls Try.prog 13 #[.agg #[.string ⟨#[118]⟩, .string ⟨#[73, 110, 116]⟩, .slice none 0 0, .bool true, .slice (some ⟨w6.heap.size, 0, none⟩) 1 1, .slice none 0 0], .agg #[.string ⟨#[73, 110, 116]⟩, .slice (some ⟨g, 0, none⟩) 1 1], .bool false] W fun e w' => e = .returned (.bool false) ∧ Below W.heap.size W w' := fun W g h hr => by
    have := usable_any ⟨#[118]⟩ ⟨#[73, 110, 116]⟩ ⟨#[73, 110, 116]⟩ none (some ⟨w6.heap.size, 0, none⟩) (some ⟨g, 0, none⟩) 0 1 1 1 (.slice none 0 0) [] [1] true true false W (B := W.heap.size) Rd.nil hr (mono h.size (hdn.keep h (Nat.le_refl _))) (Nat.le_refl _) (Nat.le_refl _) le0 (Nat.le_refl _) le1 (by decide)
    exact this
  have uC : ∀ (W : World) (g : Nat), Below w7.heap.size w7 W → Rd W W.heap.size (some ⟨g, 0, none⟩) (bv [1]) → Calls Try.prog 13 #[.agg #[.string ⟨#[118]⟩, .string ⟨#[73, 110, 116]⟩, .slice none 0 0, .bool true, .slice (some ⟨w6.heap.size, 0, none⟩) 1 1, .slice none 0 0], .agg #[.string ⟨#[73, 110, 116]⟩, .slice (some ⟨g, 0, none⟩) 1 1], .bool true] W fun e w' => e = .returned (.bool true) ∧ Below W.heap.size W w' := fun W g h hr => by
    have := usable_any ⟨#[118]⟩ ⟨#[73, 110, 116]⟩ ⟨#[73, 110, 116]⟩ none (some ⟨w6.heap.size, 0, none⟩) (some ⟨g, 0, none⟩) 0 1 1 1 (.slice none 0 0) [] [1] true true true W (B := W.heap.size) Rd.nil hr (mono h.size (hdn.keep h (Nat.le_refl _))) (Nat.le_refl _) (Nat.le_refl _) le0 (Nat.le_refl _) le1 (by decide)
    exact this
  have uD : ∀ (W : World) (g : Nat), Below w7.heap.size w7 W → Rd W W.heap.size (some ⟨g, 0, none⟩) (bv [1]) → Calls Try.prog 13 #[.agg #[.string ⟨#[]⟩, .string ⟨#[73, 110, 116]⟩, .slice none 0 0, .bool false, .slice none 0 0, .slice none 0 0], .agg #[.string ⟨#[73, 110, 116]⟩, .slice (some ⟨g, 0, none⟩) 1 1], .bool false] W fun e w' => e = .returned (.bool false) ∧ Below W.heap.size W w' := fun W g h hr => by
    have := usable_any ⟨#[]⟩ ⟨#[73, 110, 116]⟩ ⟨#[73, 110, 116]⟩ none none (some ⟨g, 0, none⟩) 0 0 0 1 (.slice none 0 0) [] [1] false false false W (B := W.heap.size) Rd.nil hr (.inl ⟨rfl, rfl⟩) (Nat.le_refl _) (Nat.le_refl _) le0 (Nat.le_refl _) le1 (by decide)
    exact this
  have uE : ∀ (W : World) (g : Nat), Below w7.heap.size w7 W → Rd W W.heap.size (some ⟨g, 0, none⟩) (bv [1]) → Calls Try.prog 13 #[.agg #[.string ⟨#[]⟩, .string ⟨#[73, 110, 116]⟩, .slice (some ⟨g, 0, none⟩) 1 1, .bool false, .slice none 0 0, .slice none 0 0], .agg #[.string ⟨#[73, 110, 116]⟩, .slice none 0 0], .bool false] W fun e w' => e = .returned (.bool true) ∧ Below W.heap.size W w' := fun W g h hr => by
    have := usable_any ⟨#[]⟩ ⟨#[73, 110, 116]⟩ ⟨#[73, 110, 116]⟩ (some ⟨g, 0, none⟩) none none 1 0 0 0 (.slice none 0 0) [1] [] false false false W (B := W.heap.size) hr Rd.nil (.inl ⟨rfl, rfl⟩) (Nat.le_refl _) (Nat.le_refl _) le1 (Nat.le_refl _) le0 (by decide)
    exact this
  have hD : Below w7.heap.size w7 w7.drew := (Below.refl _ _).drew
  clear mono hdv hdn ff kk e0 e1 e2 e3 e4 e5 f0 f1 f2 f3 f4 f5 n0 hc5 hc6 hc7 h4 h5 h6 h7 z5 z6 z7 hw7 s4
  go_region_held3 (fun W => W.cell? ⟨w5.heap.size, 0, none⟩ = some (.string ⟨#[118]⟩) ∧ W.cell? ⟨w5.heap.size, 1, none⟩ = some (.string ⟨#[73, 110, 116]⟩) ∧ W.cell? ⟨w5.heap.size, 2, none⟩ = some (.slice none 0 0) ∧ W.cell? ⟨w5.heap.size, 3, none⟩ = some (.bool true) ∧ W.cell? ⟨w5.heap.size, 4, none⟩ = some (.slice (some ⟨w4.heap.size, 0, none⟩) 1 1) ∧ W.cell? ⟨w5.heap.size, 5, none⟩ = some (.slice none 0 0) ∧ W.cell? ⟨w6.heap.size + 1, 0, none⟩ = some (.string ⟨#[118]⟩) ∧ W.cell? ⟨w6.heap.size + 1, 1, none⟩ = some (.string ⟨#[73, 110, 116]⟩) ∧ W.cell? ⟨w6.heap.size + 1, 2, none⟩ = some (.slice none 0 0) ∧ W.cell? ⟨w6.heap.size + 1, 3, none⟩ = some (.bool true) ∧ W.cell? ⟨w6.heap.size + 1, 4, none⟩ = some (.slice (some ⟨w6.heap.size, 0, none⟩) 1 1) ∧ W.cell? ⟨w6.heap.size + 1, 5, none⟩ = some (.slice none 0 0)) (exact S8 (by repeat (first | exact hD | exact Below.refl w7.heap.size _ | refine Below.alloc ?_ (by first | exact hD.size | omega | (simp; done) | (simp; omega)) _ | refine Below.drew ?_)))
      (first
        | (go_at_call 16; (with_reducible refine (refL none 0 0 _).mono ?_); rintro e X ⟨rfl, hb⟩; (first | have hl := (rd_lit (arr := #[.int .u8 1]) (L := bv [1]) rfl hb).1 | have hl := rd_litD hb | skip); (first | replace hr := rd_up hr hb (Nat.le_refl _) hb.size | skip); replace hD : Below w7.heap.size w7 X := wend (by repeat (first | exact hD | exact Below.refl w7.heap.size _ | refine Below.alloc ?_ (by first | exact hD.size | omega | (simp; done) | (simp; omega)) _ | refine Below.drew ?_)) hb)
        | (go_at_call 16; (with_reducible refine (refL (some ⟨_, 0, none⟩) 1 1 _).mono ?_); rintro e X ⟨rfl, hb⟩; (first | have hr := (rd_lit (arr := #[.int .u8 1]) (L := bv [1]) rfl hb).1 | have hr := rd_litD hb | have hr := rd_up hl hb (Nat.le_refl _) hb.size); replace hD : Below w7.heap.size w7 X := wend (by repeat (first | exact hD | exact Below.refl w7.heap.size _ | refine Below.alloc ?_ (by first | exact hD.size | omega | (simp; done) | (simp; omega)) _ | refine Below.drew ?_)) hb)
        | (go_at_call 13; (with_reducible refine (uA _ _ ?_ ?_).mono ?_); exact hD; exact hr; rintro e X ⟨rfl, hb⟩; replace hD : Below w7.heap.size w7 X := wend (by repeat (first | exact hD | exact Below.refl w7.heap.size _ | refine Below.alloc ?_ (by first | exact hD.size | omega | (simp; done) | (simp; omega)) _ | refine Below.drew ?_)) hb)
        | (go_at_call 13; (with_reducible refine (uB _ _ ?_ ?_).mono ?_); exact hD; exact hr; rintro e X ⟨rfl, hb⟩; replace hD : Below w7.heap.size w7 X := wend (by repeat (first | exact hD | exact Below.refl w7.heap.size _ | refine Below.alloc ?_ (by first | exact hD.size | omega | (simp; done) | (simp; omega)) _ | refine Below.drew ?_)) hb)
        | (go_at_call 13; (with_reducible refine (uC _ _ ?_ ?_).mono ?_); exact hD; exact hr; rintro e X ⟨rfl, hb⟩; replace hD : Below w7.heap.size w7 X := wend (by repeat (first | exact hD | exact Below.refl w7.heap.size _ | refine Below.alloc ?_ (by first | exact hD.size | omega | (simp; done) | (simp; omega)) _ | refine Below.drew ?_)) hb)
        | (go_at_call 13; (with_reducible refine (uD _ _ ?_ ?_).mono ?_); exact hD; exact hr; rintro e X ⟨rfl, hb⟩; replace hD : Below w7.heap.size w7 X := wend (by repeat (first | exact hD | exact Below.refl w7.heap.size _ | refine Below.alloc ?_ (by first | exact hD.size | omega | (simp; done) | (simp; omega)) _ | refine Below.drew ?_)) hb)
        | (go_at_call 13; (with_reducible refine (uE _ _ ?_ ?_).mono ?_); exact hD; exact hr; rintro e X ⟨rfl, hb⟩; replace hD : Below w7.heap.size w7 X := wend (by repeat (first | exact hD | exact Below.refl w7.heap.size _ | refine Below.alloc ?_ (by first | exact hD.size | omega | (simp; done) | (simp; omega)) _ | refine Below.drew ?_)) hb))
  all_goals
    clear S8 uA uB uC uD uE
    go_wp2_with fail
    refine (alive_any _).mono ?_
    rintro e w9 ⟨rfl, b9⟩
    go_wp2
    go_ret
    exact ⟨rfl, hw.trans ((hD.trans (b9.mono hD.size)).mono hw.size)⟩
open Go.ChangeShapes Go.WideShapes Go.ChangeAt
open Go.ChangeMaps (open_string shut_string)
theorem own : ownKnob Try.prog.godebug = none := by kernel_rfl
theorem laidOut : laidOutB Try.prog = true := by kernel_rfl
set_option maxRecDepth 100000 in
theorem lifted (os : Os) (started : os.Started) (H : Type) (enc : TypeId × Value → H) :
    ReturnsInHanded {} Try.checked os 6 .any (Rows.kindNamesSpec.pre6 enc Try.prog Try.f6 Rows.kindNamesRow.domain false) (Rows.kindNamesSpec.post enc Try.prog Try.f6 false true false false) := by
  refine returnsInHanded_of_change_shaped (C := Try.checked) own started (by kernel_rfl) Try.func6
    (ChangeSpec.witness6 (enc := enc) (C := Try.checked) false ⟨#[], #[], []⟩ 8 (by kernel_rfl) (by kernel_rfl) (by kernel_rfl) (by kernel_rfl)) ?_
  intro W base args ds gs before hval0 hW _ hsz0 hsh0 _
  have hsh : W.ShapedOpen Try.prog := hsh0
  have hsz : (DataW.weightsEach Try.prog (Try.f6.params.toList ++ Rows.kindNamesSpec.plain.varTypes Try.prog) (ds ++ gs)).all (· ≤ reachBytes) = true := hsz0
  clear hsz0 hsh0
  have hval : ∀ (j : Nat) t v, Try.f6.params[j]? = some t → args[j]? = some v → Value.okWide Try.prog W .any base t v := hval0
  have hW' := hW
  obtain ⟨p, q, hA0, hV, rfl, hfz, hnd⟩ := hW
  have hA : DataW.TrodAll enc Try.prog W 0 (fun _ => true) true Try.f6.params.toList args.toList ds p := hA0
  rw [Try.params6] at hA hval hsz
  have hlt0 : ∀ x ∈ p, x.block < W.heap.size := fun x hx => hW'.lt x (by simp [hx])
  obtain ⟨hargs, rfl, rfl⟩ := trodAll_nil hA
  obtain rfl : args = #[] := by cases args; simp_all
  obtain ⟨rfl, rfl⟩ := trodVars_none hV
  clear hA0 hval0
  refine (walk W).mono fun e W' ⟨he, hb⟩ => ⟨_, he, ?_⟩
  exact law_post laidOut (of_decide_eq_true (by kernel_rfl)) rfl rfl Try.underlying4 (fun ds hl => by
    match ds, hl with
    | [], _ => rfl) hW' hb

theorem proved : Rows.KindNamesSaid :=
  OpenClaim.holds_of_wide 6 Try.f6 rfl rfl rfl rfl rfl rfl rfl ⟨rfl, rfl, rfl, rfl, rfl⟩ rfl rfl rfl rfl rfl (by kernel_rfl) Try.func6 (by kernel_rfl)
    (of_decide_eq_true (by kernel_rfl)) (by unfold Func.isWrapper; first | (rw [if_pos (by decide +kernel)]; kernel_rfl) | (rw [if_neg (by decide +kernel)]; exact ⟨rfl, rfl⟩))
    (fun os started H enc _ => lifted os started H enc)
end Go.Proofs.Ytgoecnhkmfnenaa.kindNames
