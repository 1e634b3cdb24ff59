/- What the law TableNames calls: the small table, records, Put, Set, Drop on it. Conditions: Go's two tables of utf8. -/
import Derived.Test.YtcgioepbooafcaaDoorTAlive
namespace Go.Proofs.YtcgioepbooafcaaDoor
open Go.RowKit
theorem at_big {P : World → Prop} (Q : World → Prop) (W : World) (h : Q W) (k : ∀ W, Q W → P W) : P W := k W h
theorem NewTab.base {w : World} {base base' : Nat} {t : TabC} {Au : Option Addr} {cu g c : Nat} (h : NewTab w base t Au cu g c) (hb : base' ≤ base) : NewTab w base' t Au cu g c := by
  obtain ⟨q1, ⟨L, q2, q3, q4⟩, q5, q6⟩ := h
  exact ⟨own_base q1 hb, ⟨L, q2, q3, q4.base hb⟩, Nat.le_trans hb q5, q6⟩
def ZeroRes (E : Int) (w : World) (e : Ending) (w' : World) : Prop := ∃ Au cu Ar cr, e = .returned (.tuple #[.agg #[.string ⟨#[]⟩, .int .i64 0, .slice Au 0 cu, .slice Ar 0 cr], .int .i64 E]) ∧ Below w.heap.size w w'
def NewRes (nm : ByteArray) (mo : Int) (nu nr : Nat) (X : TabC) (w : World) (e : Ending) (w' : World) : Prop := ∃ Au cu g cr, e = .returned (.tuple #[.agg #[.string nm, .int .i64 mo, .slice Au nu cu, .slice (some ⟨g, 0, none⟩) nr cr], .int .i64 0]) ∧ NewTab w' w.heap.size X Au cu g cr ∧ Below w.heap.size w w'
theorem ResPost.newRes {X : TabC} {w : World} {e : Ending} {w' : World} (h : ResPost X 0 w e w') {nm : ByteArray} {mo : Int} {nu nr : Nat} (e1 : X.name = nm) (e2 : X.most = mo) (e3 : X.us.length = nu) (e4 : X.rows.length = nr) (hr : 0 < nr) : NewRes nm mo nu nr X w e w' := by
  subst e1 e2 e3 e4
  obtain ⟨Au, cu, Ar, cr, e1, f, b⟩ := h
  rcases f with ⟨f, _⟩ | ⟨g, rfl, f⟩
  · rw [f] at hr; simp at hr
  · exact ⟨Au, cu, g, cr, e1, f, b⟩
theorem small_lit (w : World) (hT : Tabs w) : Calls Tryd.prog 17 #[] w fun e w' => ∃ Au cu g, e = .returned (.agg #[.string ⟨#[84]⟩, .int .i64 2, .slice Au 1 cu, .slice (some ⟨g, 0, none⟩) 1 1]) ∧ NewTab w' w.heap.size smallT Au cu g 1 ∧ Below w.heap.size w w' := small_any w hT
theorem rec_lit (id : ByteArray) (n : Int) (h0 : -1000 ≤ n) (h1 : n ≤ 1000) (hid : id.size ≤ 1000) {D : List Cel} (hr : (lawR id n).data = D) (w : World) (hT : Tabs w) :
    Calls Tryd.prog 18 #[.string id, .int .i64 n] w fun e w' => ∃ A c, e = .returned (.agg #[.string id, .slice A D.length c]) ∧ w'.ownsRow w.heap.size 60 5 (.slice A D.length c) D.length (cv D) ∧ Below w.heap.size w w' := by
  subst hr
  exact record_any id n h0 h1 hid w hT
section
variable (t : TabC) (r : RecC) (hW : TabW t) (hr : RecW r) {nm : ByteArray} {mo : Int} {nu nr : Nat} {id : ByteArray} {D : List Cel}
  (e1 : t.name = nm) (e2 : t.most = mo) (e3 : t.us.length = nu) (e4 : t.rows.length = nr) (e5 : r.id = id) (e6 : r.data = D)
  (W1 W2 W : World) (base base2 : Nat) (Au : Option Addr) (cu g k : Nat) (n1 : NewTab W1 base t Au cu g k) (q1 : Below W1.heap.size W1 W) (A : Option Addr) (c : Nat)
  (o : W2.ownsRow base2 60 5 (.slice A D.length c) D.length (cv D)) (q2 : Below W2.heap.size W2 W) (hT : Tabs W)
include hW hr e1 e2 e3 e4 e5 e6 n1 q1 o q2 hT
theorem put_res {X : TabC} {E : Int} (hp : putT t r = (X, E)) :
    Calls Tryd.prog 10 #[.agg #[.string nm, .int .i64 mo, .slice Au nu cu, .slice (some ⟨g, 0, none⟩) nr k], .agg #[.string id, .slice A D.length c]] W fun e w' => ResPost X E W e w' := by
  subst e1 e2 e3 e4 e5 e6
  have h := put_t t r Au cu (some ⟨g, 0, none⟩) k A c W ((n1.below q1 (Nat.le_refl _)).tabIn hT hW) hW ((TwinPost.recIn o).thru q2 (Nat.le_refl _)) q2.size hr
  rw [hp] at h
  exact h
theorem put_zero {E : Int} (hp : putT t r = (zeroT, E)) :
    Calls Tryd.prog 10 #[.agg #[.string nm, .int .i64 mo, .slice Au nu cu, .slice (some ⟨g, 0, none⟩) nr k], .agg #[.string id, .slice A D.length c]] W fun e w' => ZeroRes E W e w' :=
  (put_res t r hW hr e1 e2 e3 e4 e5 e6 W1 W2 W base base2 Au cu g k n1 q1 A c o q2 hT hp).mono fun _ _ h => h.zero
theorem put_new {X : TabC} (hp : putT t r = (X, 0)) {nr' : Nat} (x1 : X.name = nm) (x2 : X.most = mo) (x3 : X.us.length = nu) (x4 : X.rows.length = nr') (x5 : 0 < nr') :
    Calls Tryd.prog 10 #[.agg #[.string nm, .int .i64 mo, .slice Au nu cu, .slice (some ⟨g, 0, none⟩) nr k], .agg #[.string id, .slice A D.length c]] W fun e w' => NewRes nm mo nu nr' X W e w' :=
  (put_res t r hW hr e1 e2 e3 e4 e5 e6 W1 W2 W base base2 Au cu g k n1 q1 A c o q2 hT hp).mono fun _ _ h => h.newRes x1 x2 x3 x4 x5
theorem set_res {X : TabC} {E : Int} (hp : setT t r = (X, E)) :
    Calls Tryd.prog 12 #[.agg #[.string nm, .int .i64 mo, .slice Au nu cu, .slice (some ⟨g, 0, none⟩) nr k], .agg #[.string id, .slice A D.length c]] W fun e w' => ResPost X E W e w' := by
  subst e1 e2 e3 e4 e5 e6
  have h := set_t t r Au cu (some ⟨g, 0, none⟩) k A c W ((n1.below q1 (Nat.le_refl _)).tabIn hT hW) hW ((TwinPost.recIn o).thru q2 (Nat.le_refl _)) q2.size hr
  rw [hp] at h
  exact h
theorem set_zero {E : Int} (hp : setT t r = (zeroT, E)) :
    Calls Tryd.prog 12 #[.agg #[.string nm, .int .i64 mo, .slice Au nu cu, .slice (some ⟨g, 0, none⟩) nr k], .agg #[.string id, .slice A D.length c]] W fun e w' => ZeroRes E W e w' :=
  (set_res t r hW hr e1 e2 e3 e4 e5 e6 W1 W2 W base base2 Au cu g k n1 q1 A c o q2 hT hp).mono fun _ _ h => h.zero
theorem set_new {X : TabC} (hp : setT t r = (X, 0)) {nr' : Nat} (x1 : X.name = nm) (x2 : X.most = mo) (x3 : X.us.length = nu) (x4 : X.rows.length = nr') (x5 : 0 < nr') :
    Calls Tryd.prog 12 #[.agg #[.string nm, .int .i64 mo, .slice Au nu cu, .slice (some ⟨g, 0, none⟩) nr k], .agg #[.string id, .slice A D.length c]] W fun e w' => NewRes nm mo nu nr' X W e w' :=
  (set_res t r hW hr e1 e2 e3 e4 e5 e6 W1 W2 W base base2 Au cu g k n1 q1 A c o q2 hT hp).mono fun _ _ h => h.newRes x1 x2 x3 x4 x5
end
theorem drop_zero (t : TabC) (hW : TabW t) {nm : ByteArray} {mo : Int} {nu nr : Nat} (id : ByteArray) (e1 : t.name = nm) (e2 : t.most = mo) (e3 : t.us.length = nu) (e4 : t.rows.length = nr) (W1 W : World) (base : Nat) (Au : Option Addr) (cu g k : Nat) (n1 : NewTab W1 base t Au cu g k) (q1 : Below W1.heap.size W1 W) (hT : Tabs W) {E : Int} (hp : dropT t id = (zeroT, E)) :
    Calls Tryd.prog 16 #[.agg #[.string nm, .int .i64 mo, .slice Au nu cu, .slice (some ⟨g, 0, none⟩) nr k], .string id] W fun e w' => ZeroRes E W e w' := by
  subst e1 e2 e3 e4
  have h := drop_t t id Au cu (some ⟨g, 0, none⟩) k W ((n1.below q1 (Nat.le_refl _)).tabIn hT hW) hW
  rw [hp] at h
  exact h.mono fun _ _ h => h.zero
def setA3 : TabC := ⟨⟨#[84]⟩, 2, [⟨#[110]⟩], [rA 3]⟩
theorem set_a3' : setT smallT (rA 3) = (setA3, 0) := set_a3
def yRec : RecC := ⟨⟨#[122]⟩, (lawR ⟨#[121]⟩ 1).data⟩
theorem put_z' : putT smallT yRec = (zeroT, 8) := put_z
theorem small3_W : TabW small3 := tabW_small (by kernel_rfl)
theorem small4_W : TabW small4 := tabW_small (by kernel_rfl)
theorem rA5_W : RecW (rA 5) := recW_small (by kernel_rfl)
theorem rB1_W : RecW (rB 1) := recW_small (by kernel_rfl)
theorem rB0_W : RecW (rB (-1)) := recW_small (by kernel_rfl)
theorem rC0_W : RecW (rC (-1)) := recW_small (by kernel_rfl)
theorem rA3_W : RecW (rA 3) := recW_small (by kernel_rfl)
theorem rB3_W : RecW (rB 3) := recW_small (by kernel_rfl)
theorem yRec_W : RecW yRec := recW_small (by kernel_rfl)
theorem NewTab.most {w : World} {base : Nat} {t t' : TabC} {Au : Option Addr} {cu g c : Nat} (h : NewTab w base t Au cu g c) (hu : t.us = t'.us) (hr : t.rows = t'.rows) : NewTab w base t' Au cu g c := by
  obtain ⟨n1, m1, u1, r1⟩ := t
  obtain ⟨n2, m2, u2, r2⟩ := t'
  simp only at hu hr
  subst hu hr
  obtain ⟨q1, ⟨L, q2, q3, q4⟩, q5, q6⟩ := h
  exact ⟨q1, ⟨L, q2, q3, q4⟩, q5, q6⟩
theorem NewTab.grown' {w w' : World} {base : Nat} {t : TabC} {Au : Option Addr} {cu g c b : Nat} (h : NewTab w base t Au cu g c) (hg : w.grownBy w' (some b)) (hb : b < base) : NewTab w' base t Au cu g c := h.grown hg hb
end Go.Proofs.YtcgioepbooafcaaDoor
