/- The program's Parse: a text's DateTime. Conditions: those of each theorem. -/
import Derived.Test.YtdaadoiedaplaaaDoorFrac
import Derived.Laws.ResultCell
import Derived.ScopeJumps
namespace Go.Proofs.YtdaadoiedaplaaaDoor
open Go.RowKit Go.Lib
def secD (y m d h mi sec : Nat) (off : Int) : Int := (sinceD y m d + 60) * 86400 + (3600 * (h : Int) + 60 * (mi : Int) + sec - 60 * off)
def kFin (y m d h mi sec nano : Nat) (off : Int) (l : List UInt8) : Option (Int × Int) :=
  if l = [] ∧ (d : Int) ≤ dim y m ∧ okD (secD y m d h mi sec off) nano = true then some (secD y m d h mi sec off, nano) else none
def kO2 (y m d h mi sec nano z oh : Nat) (l : List UInt8) : Option (Int × Int) :=
  (numP 2 0 59 l).bind fun p => kFin y m d h mi sec nano (if z = 45 then -(60 * (oh : Int) + p.1) else 60 * (oh : Int) + p.1) p.2
def kO1 (y m d h mi sec nano z oh : Nat) (l : List UInt8) : Option (Int × Int) :=
  (markP [58] l).bind fun p => kO2 y m d h mi sec nano z oh p.2
def kO0 (y m d h mi sec nano z : Nat) (l : List UInt8) : Option (Int × Int) :=
  if z = 43 ∨ z = 45 then (numP 2 0 23 l).bind fun p => kO1 y m d h mi sec nano z p.1 p.2 else kFin y m d h mi sec nano 0 l
def k12 (y m d h mi sec nano : Nat) (l : List UInt8) : Option (Int × Int) := (markP [90, 122, 43, 45] l).bind fun p => kO0 y m d h mi sec nano p.1.toNat p.2
def k11 (y m d h mi sec : Nat) (l : List UInt8) : Option (Int × Int) := (fracP l).bind fun p => k12 y m d h mi sec p.1 p.2
def k10 (y m d h mi : Nat) (l : List UInt8) : Option (Int × Int) := (numP 2 0 59 l).bind fun p => k11 y m d h mi p.1 p.2
def k9 (y m d h mi : Nat) (l : List UInt8) : Option (Int × Int) := (markP [58] l).bind fun p => k10 y m d h mi p.2
def k8 (y m d h : Nat) (l : List UInt8) : Option (Int × Int) := (numP 2 0 59 l).bind fun p => k9 y m d h p.1 p.2
def k7 (y m d h : Nat) (l : List UInt8) : Option (Int × Int) := (markP [58] l).bind fun p => k8 y m d h p.2
def k6 (y m d : Nat) (l : List UInt8) : Option (Int × Int) := (numP 2 0 23 l).bind fun p => k7 y m d p.1 p.2
def k5 (y m d : Nat) (l : List UInt8) : Option (Int × Int) := (markP [84, 116] l).bind fun p => k6 y m d p.2
def k4 (y m : Nat) (l : List UInt8) : Option (Int × Int) := (numP 2 1 31 l).bind fun p => k5 y m p.1 p.2
def k3 (y m : Nat) (l : List UInt8) : Option (Int × Int) := (markP [45] l).bind fun p => k4 y m p.2
def k2 (y : Nat) (l : List UInt8) : Option (Int × Int) := (numP 2 1 12 l).bind fun p => k3 y p.1 p.2
def k1 (y : Nat) (l : List UInt8) : Option (Int × Int) := (markP [45] l).bind fun p => k2 y p.2
def k0 (l : List UInt8) : Option (Int × Int) := (numP 4 0 9999 l).bind fun p => k1 p.1 p.2
def parseP (l : List UInt8) : Option (Int × Int) := k0 l
theorem k_num {P : Option (Int × Int)} {o : Option (List UInt8)} {f : List UInt8 → Option (Nat × List UInt8)} (K : Nat → List UInt8 → Option (Int × Int)) (r : Nat)
    (h : P = o.bind fun l => (f l).bind fun p => K p.1 p.2) (hr : ∀ v l, o.bind f = some (v, l) → r = v) : P = ((o.bind f).map (·.2)).bind (K r) := by
  subst h
  cases o with
  | none => rfl
  | some l =>
    simp only [Option.bind_some] at hr ⊢
    cases e : f l with
    | none => rfl
    | some p =>
      obtain ⟨v, l'⟩ := p
      rw [hr v l' e]
      rfl
theorem k_mark {P : Option (Int × Int)} {o : Option (List UInt8)} {M : List UInt8} (K : Nat → List UInt8 → Option (Int × Int)) (r : Nat)
    (h : P = o.bind fun l => (markP M l).bind fun p => K p.1.toNat p.2) (hr : ∀ v l, o.bind (markP M) = some (v, l) → r = v.toNat) : P = ((o.bind (markP M)).map (·.2)).bind (K r) := by
  subst h
  cases o with
  | none => rfl
  | some l =>
    simp only [Option.bind_some] at hr ⊢
    cases e : markP M l with
    | none => rfl
    | some p =>
      obtain ⟨v, l'⟩ := p
      rw [hr v l' e]
      rfl
theorem k_skip {P : Option (Int × Int)} {o : Option (List UInt8)} {M : List UInt8} (K : List UInt8 → Option (Int × Int))
    (h : P = o.bind fun l => (markP M l).bind fun p => K p.2) : P = ((o.bind (markP M)).map (·.2)).bind K := by
  subst h
  cases o with
  | none => rfl
  | some l =>
    simp only [Option.bind_some]
    cases markP M l <;> rfl
/-- what lies in the variables of Parse -/
structure PI (w W : World) (o : Option (List UInt8)) (v0 v1 : Value) : Prop where
  below : Below w.heap.size w W
  st : St W (w.heap.size + 1) o
  c0 : W.cell? ⟨w.heap.size, 0, none⟩ = some v0
  c1 : W.cell? ⟨w.heap.size, 1, none⟩ = some v1
  f0 : W.frozen? ⟨w.heap.size, 0, none⟩ = false
  f1 : W.frozen? ⟨w.heap.size, 1, none⟩ = false
theorem PI.step {w W W' : World} {o o' : Option (List UInt8)} {v0 v1 : Value} (h : PI w W o v0 v1) (hg : W.grownBy W' (some (w.heap.size + 1))) (hS : St W' (w.heap.size + 1) o') : PI w W' o' v0 v1 := by
  have hlt : w.heap.size < W.heap.size := World.block_lt_of_cell? W _ h.c0
  have hbl := hg.block w.heap.size hlt (by simp)
  exact ⟨h.below.grown hg h.below.size (fun k hk => by cases hk; omega), hS, (World.cell?_of_block (a := ⟨w.heap.size, 0, none⟩) hbl).trans h.c0, (World.cell?_of_block (a := ⟨w.heap.size, 1, none⟩) hbl).trans h.c1, (World.frozen?_of_block (a := ⟨w.heap.size, 0, none⟩) hbl).trans h.f0, (World.frozen?_of_block (a := ⟨w.heap.size, 1, none⟩) hbl).trans h.f1⟩
theorem PI.set1 {w W : World} {o : Option (List UInt8)} {v0 v1 : Value} (h : PI w W o v0 v1) (u : Value) : PI w (W.setCell ⟨w.heap.size, 1, none⟩ u) o v0 u := by
  obtain ⟨s, b, q0, q1, p0, p1, hs, ho⟩ := h.st
  refine ⟨h.below.setCell (by simp) _, ⟨s, b, ?_, ?_, ?_, ?_, hs, ho⟩, ?_, World.cell?_setCell_same _ _ _ h.c1, ?_, ?_⟩
  · rw [World.cell?_setCell_far _ _ _ _ (show w.heap.size ≠ w.heap.size + 1 by omega)]; exact q0
  · rw [World.cell?_setCell_far _ _ _ _ (show w.heap.size ≠ w.heap.size + 1 by omega)]; exact q1
  · rw [World.frozen?_setCell]; exact p0
  · rw [World.frozen?_setCell]; exact p1
  · rw [World.cell?_setCell_other _ _ _ _ (by simp)]; exact h.c0
  · rw [World.frozen?_setCell]; exact h.f0
  · rw [World.frozen?_setCell]; exact h.f1
theorem PI.start (w : World) (s : ByteArray) (hs : s.size ≤ maxLen) (t1 t2 : TypeId) :
    PI w ((w.alloc (.cells #[.int .i64 0, .int .i64 0] t1)).alloc (.cells #[.string s, .bool false] t2)) (some s.data.toList) (.int .i64 0) (.int .i64 0) := by
  have e : (w.alloc (.cells #[.int .i64 0, .int .i64 0] t1)).heap.size = w.heap.size + 1 := by simp
  refine ⟨((Below.refl _ _).alloc (Nat.le_refl _) _).alloc (by simp) _, ⟨s, false, ?_, ?_, ?_, ?_, hs, rfl, rfl⟩, ?_, ?_, ?_, ?_⟩
  · rw [World.cell?_alloc_at _ _ _ _ (by simp)]; rfl
  · rw [World.cell?_alloc_at _ _ _ _ (by simp)]; rfl
  · exact World.frozen?_alloc_at _ _ _ _ (by simp)
  · exact World.frozen?_alloc_at _ _ _ _ (by simp)
  · rw [World.cell?_alloc_past _ _ _ (by simp), World.cell?_alloc_at _ _ _ _ rfl]; rfl
  · rw [World.cell?_alloc_past _ _ _ (by simp), World.cell?_alloc_at _ _ _ _ rfl]; rfl
  · rw [World.frozen?_alloc_old _ _ _ (by simp)]; exact World.frozen?_alloc_at _ _ _ _ rfl
  · rw [World.frozen?_alloc_old _ _ _ (by simp)]; exact World.frozen?_alloc_at _ _ _ _ rfl
theorem scope_ahead {P : Program} {a : Act} {w : World} {Q : Exit → Act → World → Prop} {c rest : Code} (l : Nat) (hf : findLabel c l = some rest)
    (first : c.wp P (Exit.jump l (fun a' w' => rest.wp P (Exit.jump l (fun _ _ => False) Q) a' w') Q) a w) : (Code.scope c).wp P Q a w :=
  wp_scope_jumps l _ (fun _ _ => 0) hf first fun a w h => Code.wp_mono (fun e a w hq => by
    cases e with
    | goto l' => exact absurd hq.2 (fun h => h)
    | normal => exact hq
    | exit id => exact hq
    | ret => exact hq
    | panic ch => exact hq
    | outgrown => exact hq) h
theorem load_day (W : World) (g : Nat) (a b u : Value) (tmps : Array Value) (h0 : W.cell? ⟨g, 0, none⟩ = some a) (h1 : W.cell? ⟨g, 1, none⟩ = some b) (hp : tmps.getD 2 undef = .pointer (some ⟨g, 0, none⟩)) (hu : tmps.getD 3 undef = u) :
    ((asAddr (tmps.getD 2 undef)).run Tryd.prog W).andThen (fun a w₁ => ((loadVar 23 a).run Tryd.prog w₁).andThen fun v w₂ => .ok (Value.tuple #[v, tmps.getD 3 undef]) w₂) = .ok (Value.tuple #[.agg #[a, b], u]) W := by
  rw [hp, hu]
  go_simp
theorem c_set0 {W : World} {g : Nat} {v0 v1 u0 u1 : Value} (h0 : W.cell? ⟨g, 0, none⟩ = some v0) (_h1 : W.cell? ⟨g, 1, none⟩ = some v1) : ((W.setCell ⟨g, 0, none⟩ u0).setCell ⟨g, 1, none⟩ u1).cell? ⟨g, 0, none⟩ = some u0 := by
  rw [World.cell?_setCell_other _ _ _ _ (by simp)]
  exact World.cell?_setCell_same _ _ _ h0
theorem c_set1 {W : World} {g : Nat} {v0 v1 u0 u1 : Value} (_h0 : W.cell? ⟨g, 0, none⟩ = some v0) (h1 : W.cell? ⟨g, 1, none⟩ = some v1) : ((W.setCell ⟨g, 0, none⟩ u0).setCell ⟨g, 1, none⟩ u1).cell? ⟨g, 1, none⟩ = some u1 :=
  World.cell?_setCell_same _ _ _ ((World.cell?_setCell_other _ _ _ _ (by simp)).trans h1)
theorem since_bd (y m d : Int) (y0 : 0 ≤ y) (y1 : y ≤ 9999) (m0 : 1 ≤ m) (m1 : m ≤ 12) (d0 : 1 ≤ d) (d1 : d ≤ 31) : -100 ≤ sinceD y m d ∧ sinceD y m d ≤ 4000000 := by
  have h := ahM_bd (mM m)
  rw [sinceD_eq]
  unfold gM mY
  by_cases hm : m < 3
  · have h9 : ahM (mM m) = 306 ∨ ahM (mM m) = 337 := by
      obtain rfl | rfl : m = 1 ∨ m = 2 := by omega
      · left; rfl
      · right; rfl
    rw [if_pos hm]
    omega
  · rw [if_neg hm]
    omega
theorem kO0_off (y m d h mi sec nano z : Nat) (hz : z = 43 ∨ z = 45) : kO0 y m d h mi sec nano z = fun l => (numP 2 0 23 l).bind fun p => kO1 y m d h mi sec nano z p.1 p.2 := by
  funext l
  rw [kO0, if_pos hz]
def pv : Option (Int × Int) → Value
  | some (a, b) => .tuple #[.agg #[.int .i64 a, .int .i64 b], .int .i64 0]
  | none => .tuple #[.agg #[.int .i64 0, .int .i64 0], .int .i64 120]
def ParseV (s : ByteArray) : Value := pv (parseP s.data.toList)
set_option maxHeartbeats 8000000 in
set_option maxRecDepth 100000 in
theorem parse_any (s : ByteArray) (w : World) (hs : s.size ≤ maxLen) : Calls Tryd.prog 10 #[.string s] w fun e w' => e = .returned (ParseV s) ∧ Below w.heap.size w w' := by
  obtain ⟨P, hP⟩ : ∃ P, parseP s.data.toList = P := ⟨_, rfl⟩
  have hV : ParseV s = pv P := by rw [← hP]; rfl
  have hE : P = (some s.data.toList).bind k0 := by rw [← hP]; rfl
  have hI := PI.start w s hs 23 51
  have HV := Lib.hid hV
  clear hV hP
  generalize (some s.data.toList : Option (List UInt8)) = o at *
  have HE := Lib.hid hE
  have HI := Lib.hid hI
  clear hE hI hs
  go_enter Tryd.func10, Tryd.ntmps10
  go_wp2_with fail
  refine scope_ahead 0 rfl ?_
  go_wp2_with fail
  refine ((show Calls Tryd.prog 24 #[.pointer (some ⟨w.heap.size + 1, 0, none⟩), .int .i64 4, .int .i64 0, .int .i64 9999] _ (NumPost (w.heap.size + 1) 4 0 9999 o _) from number_any (w.heap.size + 1) 4 0 9999 o _ (by omega) (by omega) (by omega) HI.out.st)).mono ?_
  rintro e w1 ⟨y, rfl, y0, y1, hval, hS, hg⟩
  have hE := k_num (fun v l => k1 v l) y HE.out hval
  have hI := HI.out.step hg hS
  clear HE HI hval hS hg
  generalize (o.bind (numP 4 0 9999)).map (·.2) = o at *
  have HE := Lib.hid hE
  have HI := Lib.hid hI
  clear hE hI
  go_wp2_with fail
  refine (mark_any (w.heap.size + 1) ⟨#[45]⟩ o _ HI.out.st).mono ?_
  rintro e w2 ⟨_, rfl, hval, hS, hg⟩
  have hE := k_skip (M := [45]) (fun l => k2 y l) HE.out
  have hI := HI.out.step hg hS
  clear HE HI hval hS hg
  rw [show ((⟨#[45]⟩ : ByteArray).data.toList) = [45] from rfl] at hI
  generalize (o.bind (markP [45])).map (·.2) = o at *
  have HE := Lib.hid hE
  have HI := Lib.hid hI
  clear hE hI
  go_wp2_with fail
  refine ((show Calls Tryd.prog 24 #[.pointer (some ⟨w.heap.size + 1, 0, none⟩), .int .i64 2, .int .i64 1, .int .i64 12] _ (NumPost (w.heap.size + 1) 2 1 12 o _) from number_any (w.heap.size + 1) 2 1 12 o _ (by omega) (by omega) (by omega) HI.out.st)).mono ?_
  rintro e w3 ⟨m, rfl, m0, m1, hval, hS, hg⟩
  have hE := k_num (fun v l => k3 y v l) m HE.out hval
  have hI := HI.out.step hg hS
  clear HE HI hval hS hg
  generalize (o.bind (numP 2 1 12)).map (·.2) = o at *
  have HE := Lib.hid hE
  have HI := Lib.hid hI
  clear hE hI
  go_wp2_with fail
  refine (mark_any (w.heap.size + 1) ⟨#[45]⟩ o _ HI.out.st).mono ?_
  rintro e w4 ⟨_, rfl, hval, hS, hg⟩
  have hE := k_skip (M := [45]) (fun l => k4 y m l) HE.out
  have hI := HI.out.step hg hS
  clear HE HI hval hS hg
  rw [show ((⟨#[45]⟩ : ByteArray).data.toList) = [45] from rfl] at hI
  generalize (o.bind (markP [45])).map (·.2) = o at *
  have HE := Lib.hid hE
  have HI := Lib.hid hI
  clear hE hI
  go_wp2_with fail
  refine ((show Calls Tryd.prog 24 #[.pointer (some ⟨w.heap.size + 1, 0, none⟩), .int .i64 2, .int .i64 1, .int .i64 31] _ (NumPost (w.heap.size + 1) 2 1 31 o _) from number_any (w.heap.size + 1) 2 1 31 o _ (by omega) (by omega) (by omega) HI.out.st)).mono ?_
  rintro e w5 ⟨d, rfl, d0, d1, hval, hS, hg⟩
  have hE := k_num (fun v l => k5 y m v l) d HE.out hval
  have hI := HI.out.step hg hS
  clear HE HI hval hS hg
  generalize (o.bind (numP 2 1 31)).map (·.2) = o at *
  have HE := Lib.hid hE
  have HI := Lib.hid hI
  clear hE hI
  go_wp2_with fail
  refine (mark_any (w.heap.size + 1) ⟨#[84, 116]⟩ o _ HI.out.st).mono ?_
  rintro e w6 ⟨_, rfl, hval, hS, hg⟩
  have hE := k_skip (M := [84, 116]) (fun l => k6 y m d l) HE.out
  have hI := HI.out.step hg hS
  clear HE HI hval hS hg
  rw [show ((⟨#[84, 116]⟩ : ByteArray).data.toList) = [84, 116] from rfl] at hI
  generalize (o.bind (markP [84, 116])).map (·.2) = o at *
  have HE := Lib.hid hE
  have HI := Lib.hid hI
  clear hE hI
  go_wp2_with fail
  refine ((show Calls Tryd.prog 24 #[.pointer (some ⟨w.heap.size + 1, 0, none⟩), .int .i64 2, .int .i64 0, .int .i64 23] _ (NumPost (w.heap.size + 1) 2 0 23 o _) from number_any (w.heap.size + 1) 2 0 23 o _ (by omega) (by omega) (by omega) HI.out.st)).mono ?_
  rintro e w7 ⟨h, rfl, h0, h1, hval, hS, hg⟩
  have hE := k_num (fun v l => k7 y m d v l) h HE.out hval
  have hI := HI.out.step hg hS
  clear HE HI hval hS hg
  generalize (o.bind (numP 2 0 23)).map (·.2) = o at *
  have HE := Lib.hid hE
  have HI := Lib.hid hI
  clear hE hI
  go_wp2_with fail
  refine (mark_any (w.heap.size + 1) ⟨#[58]⟩ o _ HI.out.st).mono ?_
  rintro e w8 ⟨_, rfl, hval, hS, hg⟩
  have hE := k_skip (M := [58]) (fun l => k8 y m d h l) HE.out
  have hI := HI.out.step hg hS
  clear HE HI hval hS hg
  rw [show ((⟨#[58]⟩ : ByteArray).data.toList) = [58] from rfl] at hI
  generalize (o.bind (markP [58])).map (·.2) = o at *
  have HE := Lib.hid hE
  have HI := Lib.hid hI
  clear hE hI
  go_wp2_with fail
  refine ((show Calls Tryd.prog 24 #[.pointer (some ⟨w.heap.size + 1, 0, none⟩), .int .i64 2, .int .i64 0, .int .i64 59] _ (NumPost (w.heap.size + 1) 2 0 59 o _) from number_any (w.heap.size + 1) 2 0 59 o _ (by omega) (by omega) (by omega) HI.out.st)).mono ?_
  rintro e w9 ⟨mi, rfl, mi0, mi1, hval, hS, hg⟩
  have hE := k_num (fun v l => k9 y m d h v l) mi HE.out hval
  have hI := HI.out.step hg hS
  clear HE HI hval hS hg
  generalize (o.bind (numP 2 0 59)).map (·.2) = o at *
  have HE := Lib.hid hE
  have HI := Lib.hid hI
  clear hE hI
  go_wp2_with fail
  refine (mark_any (w.heap.size + 1) ⟨#[58]⟩ o _ HI.out.st).mono ?_
  rintro e w10 ⟨_, rfl, hval, hS, hg⟩
  have hE := k_skip (M := [58]) (fun l => k10 y m d h mi l) HE.out
  have hI := HI.out.step hg hS
  clear HE HI hval hS hg
  rw [show ((⟨#[58]⟩ : ByteArray).data.toList) = [58] from rfl] at hI
  generalize (o.bind (markP [58])).map (·.2) = o at *
  have HE := Lib.hid hE
  have HI := Lib.hid hI
  clear hE hI
  go_wp2_with fail
  refine ((show Calls Tryd.prog 24 #[.pointer (some ⟨w.heap.size + 1, 0, none⟩), .int .i64 2, .int .i64 0, .int .i64 59] _ (NumPost (w.heap.size + 1) 2 0 59 o _) from number_any (w.heap.size + 1) 2 0 59 o _ (by omega) (by omega) (by omega) HI.out.st)).mono ?_
  rintro e w11 ⟨sec, rfl, sec0, sec1, hval, hS, hg⟩
  have hE := k_num (fun v l => k11 y m d h mi v l) sec HE.out hval
  have hI := HI.out.step hg hS
  clear HE HI hval hS hg
  generalize (o.bind (numP 2 0 59)).map (·.2) = o at *
  have HE := Lib.hid hE
  have HI := Lib.hid hI
  clear hE hI
  go_wp2_with fail
  refine (fraction_any (w.heap.size + 1) o _ HI.out.st).mono ?_
  rintro e w12 ⟨nano, rfl, hval, hS, hg⟩
  have hE := k_num (fun v l => k12 y m d h mi sec v l) nano HE.out hval
  have hI := (HI.out.step hg hS).set1 (.int .i64 nano)
  have q1 := (HI.out.step hg hS).c1
  have q2 := (HI.out.step hg hS).f1
  clear HE HI hval hS hg
  generalize (o.bind fracP).map (·.2) = o at *
  have HE := Lib.hid hE
  have HI := Lib.hid hI
  clear hE hI
  go_wp2_with fail
  refine (mark_any (w.heap.size + 1) ⟨#[90, 122, 43, 45]⟩ o _ HI.out.st).mono ?_
  rintro e w13 ⟨z, rfl, hval, hS, hg⟩
  have hE := k_mark (fun v l => kO0 y m d h mi sec nano v l) z HE.out hval
  have hI := HI.out.step hg hS
  clear HE HI hval hS hg
  rw [show ((⟨#[90, 122, 43, 45]⟩ : ByteArray).data.toList) = [90, 122, 43, 45] from rfl] at hI
  generalize (o.bind (markP [90, 122, 43, 45])).map (·.2) = o at *
  have HE := Lib.hid hE
  have HI := Lib.hid hI
  clear hE hI
  by_cases h43 : z = 43
  · skip
    subst h43
    have hE : P = o.bind fun l => (numP 2 0 23 l).bind fun p => kO1 y m d h mi sec nano 43 p.1 p.2 := by rw [HE.out, kO0_off _ _ _ _ _ _ _ _ (by omega)]
    clear HE
    have HE := Lib.hid hE
    clear hE
    go_wp2_with fail
    refine ((show Calls Tryd.prog 24 #[.pointer (some ⟨w.heap.size + 1, 0, none⟩), .int .i64 2, .int .i64 0, .int .i64 23] _ (NumPost (w.heap.size + 1) 2 0 23 o _) from number_any (w.heap.size + 1) 2 0 23 o _ (by omega) (by omega) (by omega) HI.out.st)).mono ?_
    rintro e w14 ⟨oh, rfl, oh0, oh1, hval, hS, hg⟩
    have hE := k_num (fun v l => kO1 y m d h mi sec nano 43 v l) oh HE.out hval
    have hI := HI.out.step hg hS
    clear HE HI hval hS hg
    generalize (o.bind (numP 2 0 23)).map (·.2) = o at *
    have HE := Lib.hid hE
    have HI := Lib.hid hI
    clear hE hI
    go_wp2_with fail
    refine (mark_any (w.heap.size + 1) ⟨#[58]⟩ o _ HI.out.st).mono ?_
    rintro e w15 ⟨_, rfl, hval, hS, hg⟩
    have hE := k_skip (M := [58]) (fun l => kO2 y m d h mi sec nano 43 oh l) HE.out
    have hI := HI.out.step hg hS
    clear HE HI hval hS hg
    rw [show ((⟨#[58]⟩ : ByteArray).data.toList) = [58] from rfl] at hI
    generalize (o.bind (markP [58])).map (·.2) = o at *
    have HE := Lib.hid hE
    have HI := Lib.hid hI
    clear hE hI
    go_wp2_with fail
    refine ((show Calls Tryd.prog 24 #[.pointer (some ⟨w.heap.size + 1, 0, none⟩), .int .i64 2, .int .i64 0, .int .i64 59] _ (NumPost (w.heap.size + 1) 2 0 59 o _) from number_any (w.heap.size + 1) 2 0 59 o _ (by omega) (by omega) (by omega) HI.out.st)).mono ?_
    rintro e w16 ⟨om, rfl, om0, om1, hval, hS, hg⟩
    have hE := k_num (fun v l => kFin y m d h mi sec nano (if 43 = 45 then -(60 * (oh : Int) + v) else 60 * (oh : Int) + v) l) om HE.out hval
    have hI := HI.out.step hg hS
    clear HE HI hval hS hg
    generalize (o.bind (numP 2 0 59)).map (·.2) = o at *
    have HE := Lib.hid hE
    have HI := Lib.hid hI
    clear hE hI
    have hE : P = o.bind (kFin y m d h mi sec nano (60 * (oh : Int) + om)) := HE.out
    clear HE
    have HE := Lib.hid hE
    clear hE
    obtain ⟨s9, b9, r0, r1, p0, p1, hs9, ho⟩ := HI.out.st
    have x0 := HI.out.c0
    have x1 := HI.out.c1
    have y0' := HI.out.f0
    have y1' := HI.out.f1
    have HB := Lib.hid HI.out.below
    clear HI
    cases o with
    | none =>
      obtain rfl : b9 = true := ho
      obtain rfl : P = none := HE.out
      clear HE
      go_wp2_with fail
      go_step3
      refine ⟨rfl, ?_⟩
      go_wp2_with fail
      simp only [Exit.jump]
      refine bodyPost_ret (v := Value.tuple #[.agg #[.int .i64 0, .int .i64 0], .int .i64 120]) ?_ rfl ⟨HV.out.symm ▸ rfl, ?_⟩
      · rw [results_cell_tmp rfl]
        exact load_day _ _ _ _ _ _ (c_set0 x0 x1) (c_set1 x0 x1) rfl rfl
      · exact (HB.out.setCell (by simp) _).setCell (by simp) _
    | some l =>
      obtain ⟨rfl, hl⟩ := ho
      by_cases hl0 : l = []
      · subst hl0
        obtain rfl : s9 = ⟨#[]⟩ := by cases s9; simp at hl; subst hl; rfl
        clear hl
        obtain ⟨n, hn⟩ : ∃ n, sinceD y m d = n := ⟨_, rfl⟩
        have hn0 := since_bd y m d (by omega) (by omega) (by omega) (by omega) (by omega) (by omega)
        rw [hn] at hn0
        obtain ⟨hn0, hn1⟩ := hn0
        obtain ⟨a, b, c, hD⟩ : ∃ a b c, dateD n = (a, b, c) := ⟨_, _, _, rfl⟩
        have hdate := fun w => date_any n w (by omega) (by omega)
        have hsince := fun w => since_any y m d w (by omega) (by omega) (by omega) (by omega) (by omega) (by omega)
        rw [hn] at hsince
        rw [hD] at hdate
        have HD := Lib.hid hD
        have HN := Lib.hid hn
        have Hsince := Lib.hid hsince
        have Hdate := Lib.hid hdate
        clear hdate hsince hn hD
        by_cases hv : a = y ∧ b = m ∧ c = d
        · obtain ⟨rfl, rfl, rfl⟩ := hv
          go_wp2_with fail
          refine (Hsince.out _).mono ?_
          rintro e w' ⟨rfl, rfl⟩
          go_wp2_with fail
          refine (Hdate.out _).mono ?_
          rintro e w' ⟨rfl, rfl⟩
          go_wp2_with fail
          refine (Hsince.out _).mono ?_
          rintro e w' ⟨rfl, rfl⟩
          go_wp2_with fail
          refine (check_any _ _ _).mono ?_
          rintro e w' ⟨rfl, hb⟩
          have hSE : ((n + 60) * 86400 + (3600 * (h : Int) + 60 * (mi : Int) + sec - 60 * (60 * (oh : Int) + om)) : Int) = secD y m d h mi sec (60 * (oh : Int) + om) := by unfold secD; rw [HN.out]
          obtain ⟨S, hS⟩ : ∃ S, secD y m d h mi sec (60 * (oh : Int) + om) = S := ⟨_, rfl⟩
          rw [hS] at hSE
          rw [hSE] at hb ⊢
          have HSE := Lib.hid hSE
          have hdim : (d : Int) ≤ dim y m := by
            obtain ⟨y9, m9, d9, h1, h2, h3, h4, h5, h6⟩ := date_spec n
            rw [HD.out] at h1
            simp only [Prod.mk.injEq] at h1
            obtain ⟨rfl, rfl, rfl⟩ := h1
            exact h5
          have hlt : w.heap.size < (w16.setCell ⟨w.heap.size, 0, none⟩ (.int .i64 S)).heap.size := World.block_lt_of_cell? _ ⟨w.heap.size, 0, none⟩ (World.cell?_setCell_same _ _ _ x0)
          have hbl := hb.block w.heap.size hlt
          have z0 : w'.cell? ⟨w.heap.size, 0, none⟩ = some (.int .i64 S) := (World.cell?_of_block (a := ⟨w.heap.size, 0, none⟩) hbl).trans (World.cell?_setCell_same _ _ _ x0)
          have z1 : w'.cell? ⟨w.heap.size, 1, none⟩ = some (.int .i64 nano) := (World.cell?_of_block (a := ⟨w.heap.size, 1, none⟩) hbl).trans ((World.cell?_setCell_other _ _ _ _ (by simp)).trans x1)
          have f0 : w'.frozen? ⟨w.heap.size, 0, none⟩ = false := (World.frozen?_of_block (a := ⟨w.heap.size, 0, none⟩) hbl).trans ((World.frozen?_setCell ..).trans y0')
          have f1 : w'.frozen? ⟨w.heap.size, 1, none⟩ = false := (World.frozen?_of_block (a := ⟨w.heap.size, 1, none⟩) hbl).trans ((World.frozen?_setCell ..).trans y1')
          have HB0 : Below w.heap.size w (w16.setCell ⟨w.heap.size, 0, none⟩ (.int .i64 S)) := HB.out.setCell (by simp) _
          have HB' := Lib.hid (HB0.grown (gb_below hb none) (by omega) (fun k hk => by cases hk))
          clear HB0
          clear hb hbl hlt x0 x1 y0' y1' hSE
          have HB := HB'
          have x0 := z0
          have x1 := z1
          clear HB' z0 z1
          by_cases hok : okD S nano = true
          · have he : errD S nano = 0 := if_pos hok
            obtain rfl : P = some (S, (nano : Int)) := by
              rw [HE.out]
              simp [kFin, hdim, hS, hok]
            rw [he]
            clear he hS hok HE HD HN
            go_wp2_with fail
            simp only [Exit.jump]
            refine bodyPost_ret (v := Value.tuple #[.agg #[.int .i64 S, .int .i64 nano], .int .i64 0]) ?_ rfl ⟨HV.out.symm ▸ rfl, ?_⟩
            · rw [results_cell_tmp rfl]
              exact load_day _ _ _ _ _ _ (c_set0 x0 x1) (c_set1 x0 x1) rfl rfl
            · exact (HB.out.setCell (by simp) _).setCell (by simp) _
          · have he : errD S nano = 120 := if_neg hok
            obtain rfl : P = none := by
              rw [HE.out]
              simp [kFin, hS, hok]
            rw [he]
            clear he hS hok HE HD HN
            go_wp2_with fail
            go_step3
            go_wp2_with fail
            simp only [Exit.jump]
            refine bodyPost_ret (v := Value.tuple #[.agg #[.int .i64 0, .int .i64 0], .int .i64 120]) ?_ rfl ⟨HV.out.symm ▸ rfl, ?_⟩
            · rw [results_cell_tmp rfl]
              exact load_day _ _ _ _ _ _ (c_set0 x0 x1) (c_set1 x0 x1) rfl rfl
            · exact (HB.out.setCell (by simp) _).setCell (by simp) _
        · obtain rfl : P = none := by
            rw [HE.out]
            have hbad : ¬ (d : Int) ≤ dim y m := by
              intro hok
              have h9 := date_since y m d (by omega) (by omega) (by omega) hok
              rw [HN.out, HD.out] at h9
              simp only [Prod.mk.injEq] at h9
              exact hv h9
            simp [kFin, hbad]
          clear HE HN HD
          go_wp2_with fail
          refine (Hsince.out _).mono ?_
          rintro e w' ⟨rfl, rfl⟩
          go_wp2_with fail
          refine (Hdate.out _).mono ?_
          rintro e w' ⟨rfl, rfl⟩
          by_cases ha : a = y
          · subst ha
            by_cases hb : b = m
            · subst hb
              have hc : (c != d) = true := by rw [bne_iff_ne]; exact fun e => hv ⟨rfl, rfl, e⟩
              go_wp2_with fail
              go_step3
              refine ⟨rfl, ?_⟩
              go_wp2_with fail
              simp only [Exit.jump]
              refine bodyPost_ret (v := Value.tuple #[.agg #[.int .i64 0, .int .i64 0], .int .i64 120]) ?_ rfl ⟨HV.out.symm ▸ rfl, ?_⟩
              · rw [results_cell_tmp rfl]
                exact load_day _ _ _ _ _ _ (c_set0 x0 x1) (c_set1 x0 x1) rfl rfl
              · exact (HB.out.setCell (by simp) _).setCell (by simp) _
            · have hc : (b != m) = true := by rw [bne_iff_ne]; exact hb
              go_wp2_with fail
              go_step3
              refine ⟨rfl, ?_⟩
              go_wp2_with fail
              simp only [Exit.jump]
              refine bodyPost_ret (v := Value.tuple #[.agg #[.int .i64 0, .int .i64 0], .int .i64 120]) ?_ rfl ⟨HV.out.symm ▸ rfl, ?_⟩
              · rw [results_cell_tmp rfl]
                exact load_day _ _ _ _ _ _ (c_set0 x0 x1) (c_set1 x0 x1) rfl rfl
              · exact (HB.out.setCell (by simp) _).setCell (by simp) _
          · have hc : (a != y) = true := by rw [bne_iff_ne]; exact ha
            go_wp2_with fail
            go_step3
            refine ⟨rfl, ?_⟩
            go_wp2_with fail
            simp only [Exit.jump]
            refine bodyPost_ret (v := Value.tuple #[.agg #[.int .i64 0, .int .i64 0], .int .i64 120]) ?_ rfl ⟨HV.out.symm ▸ rfl, ?_⟩
            · rw [results_cell_tmp rfl]
              exact load_day _ _ _ _ _ _ (c_set0 x0 x1) (c_set1 x0 x1) rfl rfl
            · exact (HB.out.setCell (by simp) _).setCell (by simp) _
      · have hne : (!s9.toList.isEmpty) = true := by rw [ByteArray.toList_eq, hl]; cases l <;> simp_all
        obtain rfl : P = none := by rw [HE.out]; simp [kFin, hl0]
        clear HE
        go_wp2_with fail
        go_step3
        refine ⟨rfl, ?_⟩
        go_wp2_with fail
        simp only [Exit.jump]
        refine bodyPost_ret (v := Value.tuple #[.agg #[.int .i64 0, .int .i64 0], .int .i64 120]) ?_ rfl ⟨HV.out.symm ▸ rfl, ?_⟩
        · rw [results_cell_tmp rfl]
          exact load_day _ _ _ _ _ _ (c_set0 x0 x1) (c_set1 x0 x1) rfl rfl
        · exact (HB.out.setCell (by simp) _).setCell (by simp) _
  · by_cases h45 : z = 45
    · skip
      subst h45
      have hE : P = o.bind fun l => (numP 2 0 23 l).bind fun p => kO1 y m d h mi sec nano 45 p.1 p.2 := by rw [HE.out, kO0_off _ _ _ _ _ _ _ _ (by omega)]
      clear HE
      have HE := Lib.hid hE
      clear hE
      go_wp2_with fail
      refine ((show Calls Tryd.prog 24 #[.pointer (some ⟨w.heap.size + 1, 0, none⟩), .int .i64 2, .int .i64 0, .int .i64 23] _ (NumPost (w.heap.size + 1) 2 0 23 o _) from number_any (w.heap.size + 1) 2 0 23 o _ (by omega) (by omega) (by omega) HI.out.st)).mono ?_
      rintro e w14 ⟨oh, rfl, oh0, oh1, hval, hS, hg⟩
      have hE := k_num (fun v l => kO1 y m d h mi sec nano 45 v l) oh HE.out hval
      have hI := HI.out.step hg hS
      clear HE HI hval hS hg
      generalize (o.bind (numP 2 0 23)).map (·.2) = o at *
      have HE := Lib.hid hE
      have HI := Lib.hid hI
      clear hE hI
      go_wp2_with fail
      refine (mark_any (w.heap.size + 1) ⟨#[58]⟩ o _ HI.out.st).mono ?_
      rintro e w15 ⟨_, rfl, hval, hS, hg⟩
      have hE := k_skip (M := [58]) (fun l => kO2 y m d h mi sec nano 45 oh l) HE.out
      have hI := HI.out.step hg hS
      clear HE HI hval hS hg
      rw [show ((⟨#[58]⟩ : ByteArray).data.toList) = [58] from rfl] at hI
      generalize (o.bind (markP [58])).map (·.2) = o at *
      have HE := Lib.hid hE
      have HI := Lib.hid hI
      clear hE hI
      go_wp2_with fail
      refine ((show Calls Tryd.prog 24 #[.pointer (some ⟨w.heap.size + 1, 0, none⟩), .int .i64 2, .int .i64 0, .int .i64 59] _ (NumPost (w.heap.size + 1) 2 0 59 o _) from number_any (w.heap.size + 1) 2 0 59 o _ (by omega) (by omega) (by omega) HI.out.st)).mono ?_
      rintro e w16 ⟨om, rfl, om0, om1, hval, hS, hg⟩
      have hE := k_num (fun v l => kFin y m d h mi sec nano (if 45 = 45 then -(60 * (oh : Int) + v) else 60 * (oh : Int) + v) l) om HE.out hval
      have hI := HI.out.step hg hS
      clear HE HI hval hS hg
      generalize (o.bind (numP 2 0 59)).map (·.2) = o at *
      have HE := Lib.hid hE
      have HI := Lib.hid hI
      clear hE hI
      have hE : P = o.bind (kFin y m d h mi sec nano (-(60 * (oh : Int) + om))) := HE.out
      clear HE
      have HE := Lib.hid hE
      clear hE
      obtain ⟨s9, b9, r0, r1, p0, p1, hs9, ho⟩ := HI.out.st
      have x0 := HI.out.c0
      have x1 := HI.out.c1
      have y0' := HI.out.f0
      have y1' := HI.out.f1
      have HB := Lib.hid HI.out.below
      clear HI
      cases o with
      | none =>
        obtain rfl : b9 = true := ho
        obtain rfl : P = none := HE.out
        clear HE
        go_wp2_with fail
        go_step3
        refine ⟨rfl, ?_⟩
        go_wp2_with fail
        simp only [Exit.jump]
        refine bodyPost_ret (v := Value.tuple #[.agg #[.int .i64 0, .int .i64 0], .int .i64 120]) ?_ rfl ⟨HV.out.symm ▸ rfl, ?_⟩
        · rw [results_cell_tmp rfl]
          exact load_day _ _ _ _ _ _ (c_set0 x0 x1) (c_set1 x0 x1) rfl rfl
        · exact (HB.out.setCell (by simp) _).setCell (by simp) _
      | some l =>
        obtain ⟨rfl, hl⟩ := ho
        by_cases hl0 : l = []
        · subst hl0
          obtain rfl : s9 = ⟨#[]⟩ := by cases s9; simp at hl; subst hl; rfl
          clear hl
          obtain ⟨n, hn⟩ : ∃ n, sinceD y m d = n := ⟨_, rfl⟩
          have hn0 := since_bd y m d (by omega) (by omega) (by omega) (by omega) (by omega) (by omega)
          rw [hn] at hn0
          obtain ⟨hn0, hn1⟩ := hn0
          obtain ⟨a, b, c, hD⟩ : ∃ a b c, dateD n = (a, b, c) := ⟨_, _, _, rfl⟩
          have hdate := fun w => date_any n w (by omega) (by omega)
          have hsince := fun w => since_any y m d w (by omega) (by omega) (by omega) (by omega) (by omega) (by omega)
          rw [hn] at hsince
          rw [hD] at hdate
          have HD := Lib.hid hD
          have HN := Lib.hid hn
          have Hsince := Lib.hid hsince
          have Hdate := Lib.hid hdate
          clear hdate hsince hn hD
          by_cases hv : a = y ∧ b = m ∧ c = d
          · obtain ⟨rfl, rfl, rfl⟩ := hv
            go_wp2_with fail
            refine (Hsince.out _).mono ?_
            rintro e w' ⟨rfl, rfl⟩
            go_wp2_with fail
            refine (Hdate.out _).mono ?_
            rintro e w' ⟨rfl, rfl⟩
            go_wp2_with fail
            refine (Hsince.out _).mono ?_
            rintro e w' ⟨rfl, rfl⟩
            go_wp2_with fail
            refine (check_any _ _ _).mono ?_
            rintro e w' ⟨rfl, hb⟩
            have hSE : ((n + 60) * 86400 + (3600 * (h : Int) + 60 * (mi : Int) + sec - 60 * -(60 * (oh : Int) + om)) : Int) = secD y m d h mi sec (-(60 * (oh : Int) + om)) := by unfold secD; rw [HN.out]
            obtain ⟨S, hS⟩ : ∃ S, secD y m d h mi sec (-(60 * (oh : Int) + om)) = S := ⟨_, rfl⟩
            rw [hS] at hSE
            rw [hSE] at hb ⊢
            have HSE := Lib.hid hSE
            have hdim : (d : Int) ≤ dim y m := by
              obtain ⟨y9, m9, d9, h1, h2, h3, h4, h5, h6⟩ := date_spec n
              rw [HD.out] at h1
              simp only [Prod.mk.injEq] at h1
              obtain ⟨rfl, rfl, rfl⟩ := h1
              exact h5
            have hlt : w.heap.size < (w16.setCell ⟨w.heap.size, 0, none⟩ (.int .i64 S)).heap.size := World.block_lt_of_cell? _ ⟨w.heap.size, 0, none⟩ (World.cell?_setCell_same _ _ _ x0)
            have hbl := hb.block w.heap.size hlt
            have z0 : w'.cell? ⟨w.heap.size, 0, none⟩ = some (.int .i64 S) := (World.cell?_of_block (a := ⟨w.heap.size, 0, none⟩) hbl).trans (World.cell?_setCell_same _ _ _ x0)
            have z1 : w'.cell? ⟨w.heap.size, 1, none⟩ = some (.int .i64 nano) := (World.cell?_of_block (a := ⟨w.heap.size, 1, none⟩) hbl).trans ((World.cell?_setCell_other _ _ _ _ (by simp)).trans x1)
            have f0 : w'.frozen? ⟨w.heap.size, 0, none⟩ = false := (World.frozen?_of_block (a := ⟨w.heap.size, 0, none⟩) hbl).trans ((World.frozen?_setCell ..).trans y0')
            have f1 : w'.frozen? ⟨w.heap.size, 1, none⟩ = false := (World.frozen?_of_block (a := ⟨w.heap.size, 1, none⟩) hbl).trans ((World.frozen?_setCell ..).trans y1')
            have HB0 : Below w.heap.size w (w16.setCell ⟨w.heap.size, 0, none⟩ (.int .i64 S)) := HB.out.setCell (by simp) _
            have HB' := Lib.hid (HB0.grown (gb_below hb none) (by omega) (fun k hk => by cases hk))
            clear HB0
            clear hb hbl hlt x0 x1 y0' y1' hSE
            have HB := HB'
            have x0 := z0
            have x1 := z1
            clear HB' z0 z1
            by_cases hok : okD S nano = true
            · have he : errD S nano = 0 := if_pos hok
              obtain rfl : P = some (S, (nano : Int)) := by
                rw [HE.out]
                simp [kFin, hdim, hS, hok]
              rw [he]
              clear he hS hok HE HD HN
              go_wp2_with fail
              simp only [Exit.jump]
              refine bodyPost_ret (v := Value.tuple #[.agg #[.int .i64 S, .int .i64 nano], .int .i64 0]) ?_ rfl ⟨HV.out.symm ▸ rfl, ?_⟩
              · rw [results_cell_tmp rfl]
                exact load_day _ _ _ _ _ _ (c_set0 x0 x1) (c_set1 x0 x1) rfl rfl
              · exact (HB.out.setCell (by simp) _).setCell (by simp) _
            · have he : errD S nano = 120 := if_neg hok
              obtain rfl : P = none := by
                rw [HE.out]
                simp [kFin, hS, hok]
              rw [he]
              clear he hS hok HE HD HN
              go_wp2_with fail
              go_step3
              go_wp2_with fail
              simp only [Exit.jump]
              refine bodyPost_ret (v := Value.tuple #[.agg #[.int .i64 0, .int .i64 0], .int .i64 120]) ?_ rfl ⟨HV.out.symm ▸ rfl, ?_⟩
              · rw [results_cell_tmp rfl]
                exact load_day _ _ _ _ _ _ (c_set0 x0 x1) (c_set1 x0 x1) rfl rfl
              · exact (HB.out.setCell (by simp) _).setCell (by simp) _
          · obtain rfl : P = none := by
              rw [HE.out]
              have hbad : ¬ (d : Int) ≤ dim y m := by
                intro hok
                have h9 := date_since y m d (by omega) (by omega) (by omega) hok
                rw [HN.out, HD.out] at h9
                simp only [Prod.mk.injEq] at h9
                exact hv h9
              simp [kFin, hbad]
            clear HE HN HD
            go_wp2_with fail
            refine (Hsince.out _).mono ?_
            rintro e w' ⟨rfl, rfl⟩
            go_wp2_with fail
            refine (Hdate.out _).mono ?_
            rintro e w' ⟨rfl, rfl⟩
            by_cases ha : a = y
            · subst ha
              by_cases hb : b = m
              · subst hb
                have hc : (c != d) = true := by rw [bne_iff_ne]; exact fun e => hv ⟨rfl, rfl, e⟩
                go_wp2_with fail
                go_step3
                refine ⟨rfl, ?_⟩
                go_wp2_with fail
                simp only [Exit.jump]
                refine bodyPost_ret (v := Value.tuple #[.agg #[.int .i64 0, .int .i64 0], .int .i64 120]) ?_ rfl ⟨HV.out.symm ▸ rfl, ?_⟩
                · rw [results_cell_tmp rfl]
                  exact load_day _ _ _ _ _ _ (c_set0 x0 x1) (c_set1 x0 x1) rfl rfl
                · exact (HB.out.setCell (by simp) _).setCell (by simp) _
              · have hc : (b != m) = true := by rw [bne_iff_ne]; exact hb
                go_wp2_with fail
                go_step3
                refine ⟨rfl, ?_⟩
                go_wp2_with fail
                simp only [Exit.jump]
                refine bodyPost_ret (v := Value.tuple #[.agg #[.int .i64 0, .int .i64 0], .int .i64 120]) ?_ rfl ⟨HV.out.symm ▸ rfl, ?_⟩
                · rw [results_cell_tmp rfl]
                  exact load_day _ _ _ _ _ _ (c_set0 x0 x1) (c_set1 x0 x1) rfl rfl
                · exact (HB.out.setCell (by simp) _).setCell (by simp) _
            · have hc : (a != y) = true := by rw [bne_iff_ne]; exact ha
              go_wp2_with fail
              go_step3
              refine ⟨rfl, ?_⟩
              go_wp2_with fail
              simp only [Exit.jump]
              refine bodyPost_ret (v := Value.tuple #[.agg #[.int .i64 0, .int .i64 0], .int .i64 120]) ?_ rfl ⟨HV.out.symm ▸ rfl, ?_⟩
              · rw [results_cell_tmp rfl]
                exact load_day _ _ _ _ _ _ (c_set0 x0 x1) (c_set1 x0 x1) rfl rfl
              · exact (HB.out.setCell (by simp) _).setCell (by simp) _
        · have hne : (!s9.toList.isEmpty) = true := by rw [ByteArray.toList_eq, hl]; cases l <;> simp_all
          obtain rfl : P = none := by rw [HE.out]; simp [kFin, hl0]
          clear HE
          go_wp2_with fail
          go_step3
          refine ⟨rfl, ?_⟩
          go_wp2_with fail
          simp only [Exit.jump]
          refine bodyPost_ret (v := Value.tuple #[.agg #[.int .i64 0, .int .i64 0], .int .i64 120]) ?_ rfl ⟨HV.out.symm ▸ rfl, ?_⟩
          · rw [results_cell_tmp rfl]
            exact load_day _ _ _ _ _ _ (c_set0 x0 x1) (c_set1 x0 x1) rfl rfl
          · exact (HB.out.setCell (by simp) _).setCell (by simp) _
    · have hE : P = o.bind (kFin y m d h mi sec nano 0) := by rw [HE.out]; congr 1; funext l; simp [kO0, h43, h45]
      clear HE
      have HE := Lib.hid hE
      clear hE
      have h43' : ((z : Int) == 43) = false := by simp; omega
      have h45' : ((z : Int) == 45) = false := by simp; omega
      obtain ⟨s9, b9, r0, r1, p0, p1, hs9, ho⟩ := HI.out.st
      have x0 := HI.out.c0
      have x1 := HI.out.c1
      have y0' := HI.out.f0
      have y1' := HI.out.f1
      have HB := Lib.hid HI.out.below
      clear HI
      cases o with
      | none =>
        obtain rfl : b9 = true := ho
        obtain rfl : P = none := HE.out
        clear HE
        go_wp2_with fail
        go_step3
        refine ⟨rfl, ?_⟩
        go_wp2_with fail
        simp only [Exit.jump]
        refine bodyPost_ret (v := Value.tuple #[.agg #[.int .i64 0, .int .i64 0], .int .i64 120]) ?_ rfl ⟨HV.out.symm ▸ rfl, ?_⟩
        · rw [results_cell_tmp rfl]
          exact load_day _ _ _ _ _ _ (c_set0 x0 x1) (c_set1 x0 x1) rfl rfl
        · exact (HB.out.setCell (by simp) _).setCell (by simp) _
      | some l =>
        obtain ⟨rfl, hl⟩ := ho
        by_cases hl0 : l = []
        · subst hl0
          obtain rfl : s9 = ⟨#[]⟩ := by cases s9; simp at hl; subst hl; rfl
          clear hl
          obtain ⟨n, hn⟩ : ∃ n, sinceD y m d = n := ⟨_, rfl⟩
          have hn0 := since_bd y m d (by omega) (by omega) (by omega) (by omega) (by omega) (by omega)
          rw [hn] at hn0
          obtain ⟨hn0, hn1⟩ := hn0
          obtain ⟨a, b, c, hD⟩ : ∃ a b c, dateD n = (a, b, c) := ⟨_, _, _, rfl⟩
          have hdate := fun w => date_any n w (by omega) (by omega)
          have hsince := fun w => since_any y m d w (by omega) (by omega) (by omega) (by omega) (by omega) (by omega)
          rw [hn] at hsince
          rw [hD] at hdate
          have HD := Lib.hid hD
          have HN := Lib.hid hn
          have Hsince := Lib.hid hsince
          have Hdate := Lib.hid hdate
          clear hdate hsince hn hD
          by_cases hv : a = y ∧ b = m ∧ c = d
          · obtain ⟨rfl, rfl, rfl⟩ := hv
            go_wp2_with fail
            refine (Hsince.out _).mono ?_
            rintro e w' ⟨rfl, rfl⟩
            go_wp2_with fail
            refine (Hdate.out _).mono ?_
            rintro e w' ⟨rfl, rfl⟩
            go_wp2_with fail
            refine (Hsince.out _).mono ?_
            rintro e w' ⟨rfl, rfl⟩
            go_wp2_with fail
            refine (check_any _ _ _).mono ?_
            rintro e w' ⟨rfl, hb⟩
            have hSE : ((n + 60) * 86400 + (3600 * (h : Int) + 60 * (mi : Int) + sec) : Int) = secD y m d h mi sec (0) := by unfold secD; rw [HN.out]; omega
            obtain ⟨S, hS⟩ : ∃ S, secD y m d h mi sec (0) = S := ⟨_, rfl⟩
            rw [hS] at hSE
            rw [hSE] at hb ⊢
            have HSE := Lib.hid hSE
            have hdim : (d : Int) ≤ dim y m := by
              obtain ⟨y9, m9, d9, h1, h2, h3, h4, h5, h6⟩ := date_spec n
              rw [HD.out] at h1
              simp only [Prod.mk.injEq] at h1
              obtain ⟨rfl, rfl, rfl⟩ := h1
              exact h5
            have hlt : w.heap.size < (w13.setCell ⟨w.heap.size, 0, none⟩ (.int .i64 S)).heap.size := World.block_lt_of_cell? _ ⟨w.heap.size, 0, none⟩ (World.cell?_setCell_same _ _ _ x0)
            have hbl := hb.block w.heap.size hlt
            have z0 : w'.cell? ⟨w.heap.size, 0, none⟩ = some (.int .i64 S) := (World.cell?_of_block (a := ⟨w.heap.size, 0, none⟩) hbl).trans (World.cell?_setCell_same _ _ _ x0)
            have z1 : w'.cell? ⟨w.heap.size, 1, none⟩ = some (.int .i64 nano) := (World.cell?_of_block (a := ⟨w.heap.size, 1, none⟩) hbl).trans ((World.cell?_setCell_other _ _ _ _ (by simp)).trans x1)
            have f0 : w'.frozen? ⟨w.heap.size, 0, none⟩ = false := (World.frozen?_of_block (a := ⟨w.heap.size, 0, none⟩) hbl).trans ((World.frozen?_setCell ..).trans y0')
            have f1 : w'.frozen? ⟨w.heap.size, 1, none⟩ = false := (World.frozen?_of_block (a := ⟨w.heap.size, 1, none⟩) hbl).trans ((World.frozen?_setCell ..).trans y1')
            have HB0 : Below w.heap.size w (w13.setCell ⟨w.heap.size, 0, none⟩ (.int .i64 S)) := HB.out.setCell (by simp) _
            have HB' := Lib.hid (HB0.grown (gb_below hb none) (by omega) (fun k hk => by cases hk))
            clear HB0
            clear hb hbl hlt x0 x1 y0' y1' hSE
            have HB := HB'
            have x0 := z0
            have x1 := z1
            clear HB' z0 z1
            by_cases hok : okD S nano = true
            · have he : errD S nano = 0 := if_pos hok
              obtain rfl : P = some (S, (nano : Int)) := by
                rw [HE.out]
                simp [kFin, hdim, hS, hok]
              rw [he]
              clear he hS hok HE HD HN
              go_wp2_with fail
              simp only [Exit.jump]
              refine bodyPost_ret (v := Value.tuple #[.agg #[.int .i64 S, .int .i64 nano], .int .i64 0]) ?_ rfl ⟨HV.out.symm ▸ rfl, ?_⟩
              · rw [results_cell_tmp rfl]
                exact load_day _ _ _ _ _ _ (c_set0 x0 x1) (c_set1 x0 x1) rfl rfl
              · exact (HB.out.setCell (by simp) _).setCell (by simp) _
            · have he : errD S nano = 120 := if_neg hok
              obtain rfl : P = none := by
                rw [HE.out]
                simp [kFin, hS, hok]
              rw [he]
              clear he hS hok HE HD HN
              go_wp2_with fail
              go_step3
              go_wp2_with fail
              simp only [Exit.jump]
              refine bodyPost_ret (v := Value.tuple #[.agg #[.int .i64 0, .int .i64 0], .int .i64 120]) ?_ rfl ⟨HV.out.symm ▸ rfl, ?_⟩
              · rw [results_cell_tmp rfl]
                exact load_day _ _ _ _ _ _ (c_set0 x0 x1) (c_set1 x0 x1) rfl rfl
              · exact (HB.out.setCell (by simp) _).setCell (by simp) _
          · obtain rfl : P = none := by
              rw [HE.out]
              have hbad : ¬ (d : Int) ≤ dim y m := by
                intro hok
                have h9 := date_since y m d (by omega) (by omega) (by omega) hok
                rw [HN.out, HD.out] at h9
                simp only [Prod.mk.injEq] at h9
                exact hv h9
              simp [kFin, hbad]
            clear HE HN HD
            go_wp2_with fail
            refine (Hsince.out _).mono ?_
            rintro e w' ⟨rfl, rfl⟩
            go_wp2_with fail
            refine (Hdate.out _).mono ?_
            rintro e w' ⟨rfl, rfl⟩
            by_cases ha : a = y
            · subst ha
              by_cases hb : b = m
              · subst hb
                have hc : (c != d) = true := by rw [bne_iff_ne]; exact fun e => hv ⟨rfl, rfl, e⟩
                go_wp2_with fail
                go_step3
                refine ⟨rfl, ?_⟩
                go_wp2_with fail
                simp only [Exit.jump]
                refine bodyPost_ret (v := Value.tuple #[.agg #[.int .i64 0, .int .i64 0], .int .i64 120]) ?_ rfl ⟨HV.out.symm ▸ rfl, ?_⟩
                · rw [results_cell_tmp rfl]
                  exact load_day _ _ _ _ _ _ (c_set0 x0 x1) (c_set1 x0 x1) rfl rfl
                · exact (HB.out.setCell (by simp) _).setCell (by simp) _
              · have hc : (b != m) = true := by rw [bne_iff_ne]; exact hb
                go_wp2_with fail
                go_step3
                refine ⟨rfl, ?_⟩
                go_wp2_with fail
                simp only [Exit.jump]
                refine bodyPost_ret (v := Value.tuple #[.agg #[.int .i64 0, .int .i64 0], .int .i64 120]) ?_ rfl ⟨HV.out.symm ▸ rfl, ?_⟩
                · rw [results_cell_tmp rfl]
                  exact load_day _ _ _ _ _ _ (c_set0 x0 x1) (c_set1 x0 x1) rfl rfl
                · exact (HB.out.setCell (by simp) _).setCell (by simp) _
            · have hc : (a != y) = true := by rw [bne_iff_ne]; exact ha
              go_wp2_with fail
              go_step3
              refine ⟨rfl, ?_⟩
              go_wp2_with fail
              simp only [Exit.jump]
              refine bodyPost_ret (v := Value.tuple #[.agg #[.int .i64 0, .int .i64 0], .int .i64 120]) ?_ rfl ⟨HV.out.symm ▸ rfl, ?_⟩
              · rw [results_cell_tmp rfl]
                exact load_day _ _ _ _ _ _ (c_set0 x0 x1) (c_set1 x0 x1) rfl rfl
              · exact (HB.out.setCell (by simp) _).setCell (by simp) _
        · have hne : (!s9.toList.isEmpty) = true := by rw [ByteArray.toList_eq, hl]; cases l <;> simp_all
          obtain rfl : P = none := by rw [HE.out]; simp [kFin, hl0]
          clear HE
          go_wp2_with fail
          go_step3
          refine ⟨rfl, ?_⟩
          go_wp2_with fail
          simp only [Exit.jump]
          refine bodyPost_ret (v := Value.tuple #[.agg #[.int .i64 0, .int .i64 0], .int .i64 120]) ?_ rfl ⟨HV.out.symm ▸ rfl, ?_⟩
          · rw [results_cell_tmp rfl]
            exact load_day _ _ _ _ _ _ (c_set0 x0 x1) (c_set1 x0 x1) rfl rfl
          · exact (HB.out.setCell (by simp) _).setCell (by simp) _
end Go.Proofs.YtdaadoiedaplaaaDoor
