/- The reference's Great over cells, arguments, directives, inputs and definitions: it answers, and writes nothing that was there. Conditions: lengths within the model's. -/
import Derived.Test.YtgoecnhkmfnenaaKAlive
import Derived.Deep.RegionHeld3
import Derived.Deep.QuietTactic
import Derived.BigQuiet
namespace Go.Proofs.Ytgoecnhkmfnenaa
open Go.RowKit
/-- a slice whose elements of so many cells are as told, in blocks below B -/
def Sl (B sz : Nat) (P : Nat → Nat → Prop) (v : Value) : Prop :=
  ∃ (A : Option Addr) (n c : Nat), v = .slice A n c ∧ n ≤ maxLen ∧ (n = 0 ∨ ∃ b off, A = some ⟨b, off, none⟩ ∧ b < B ∧ ∀ k, k < n → P b (off + k * sz))
theorem Sl.imp {B B' sz : Nat} {P P' : Nat → Nat → Prop} {v : Value} (h : Sl B sz P v) (hB : B ≤ B') (hP : ∀ b o, b < B → P b o → P' b o) : Sl B' sz P' v := by
  obtain ⟨A, n, c, e, hn, h⟩ := h
  refine ⟨A, n, c, e, hn, ?_⟩
  rcases h with h | ⟨b, off, e, hb, h⟩
  · exact .inl h
  · exact .inr ⟨b, off, e, by omega, fun k hk => hP _ _ hb (h k hk)⟩
/-- all that lay below B lies untouched -/
def Kp (w w' : World) (B : Nat) : Prop := ∀ b o, b < B → w'.cell? ⟨b, o, none⟩ = w.cell? ⟨b, o, none⟩
theorem Kp.of_below {w w' : World} {B B' : Nat} (h : Below B' w w') (hB : B ≤ B') : Kp w w' B := fun b o hb => h.cell (p := ⟨b, o, none⟩) (Nat.lt_of_lt_of_le hb hB)
def CellE (w : World) (b o : Nat) : Prop := ∃ nm tx : ByteArray, w.cell? ⟨b, o + 1, none⟩ = some (.string nm) ∧ w.cell? ⟨b, o + 2, none⟩ = some (.string tx)
def StrE (w : World) (b o : Nat) : Prop := ∃ s : ByteArray, w.cell? ⟨b, o, none⟩ = some (.string s)
def ArgE (w : World) (B b o : Nat) : Prop := ∃ (nm : ByteArray) (v : Value), w.cell? ⟨b, o, none⟩ = some (.string nm) ∧ w.cell? ⟨b, o + 1, none⟩ = some v ∧ Sl B 5 (CellE w) v
def DirE (w : World) (B b o : Nat) : Prop := ∃ (nm : ByteArray) (v : Value), w.cell? ⟨b, o, none⟩ = some (.string nm) ∧ w.cell? ⟨b, o + 1, none⟩ = some v ∧ Sl B 2 (ArgE w B) v
def InpE (w : World) (B b o : Nat) : Prop := ∃ (nm tn : ByteArray) (WA : Option Addr) (wn wc : Nat) (dv gv : Value), w.cell? ⟨b, o, none⟩ = some (.string nm) ∧ w.cell? ⟨b, o + 1, none⟩ = some (.string tn) ∧
  w.cell? ⟨b, o + 2, none⟩ = some (.slice WA wn wc) ∧ w.cell? ⟨b, o + 4, none⟩ = some dv ∧ w.cell? ⟨b, o + 5, none⟩ = some gv ∧ Sl B 5 (CellE w) dv ∧ Sl B 2 (DirE w B) gv
def FldE (w : World) (B b o : Nat) : Prop := ∃ (nm tn : ByteArray) (WA : Option Addr) (wn wc : Nat) (av gv : Value), w.cell? ⟨b, o, none⟩ = some (.string nm) ∧ w.cell? ⟨b, o + 1, none⟩ = some av ∧
  w.cell? ⟨b, o + 2, none⟩ = some (.string tn) ∧ w.cell? ⟨b, o + 3, none⟩ = some (.slice WA wn wc) ∧ w.cell? ⟨b, o + 4, none⟩ = some gv ∧ Sl B 6 (InpE w B) av ∧ Sl B 2 (DirE w B) gv
def DefE (w : World) (B b o : Nat) : Prop := ∃ (kd : UInt8) (nm : ByteArray) (gv sv iv fv : Value), w.cell? ⟨b, o, none⟩ = some (.int .u8 kd.toNat) ∧ w.cell? ⟨b, o + 1, none⟩ = some (.string nm) ∧ w.cell? ⟨b, o + 2, none⟩ = some gv ∧
  w.cell? ⟨b, o + 3, none⟩ = some sv ∧ w.cell? ⟨b, o + 4, none⟩ = some iv ∧ w.cell? ⟨b, o + 5, none⟩ = some fv ∧ Sl B 2 (DirE w B) gv ∧ Sl B 1 (StrE w) sv ∧ Sl B 6 (InpE w B) iv ∧ Sl B 5 (FldE w B) fv
section
variable {w w' : World} {B B' : Nat}
theorem CellE.keep (h : Kp w w' B) {b o : Nat} (hb : b < B) (x : CellE w b o) : CellE w' b o := by
  obtain ⟨nm, tx, h1, h2⟩ := x
  exact ⟨nm, tx, (h _ _ hb).trans h1, (h _ _ hb).trans h2⟩
theorem StrE.keep (h : Kp w w' B) {b o : Nat} (hb : b < B) (x : StrE w b o) : StrE w' b o := by
  obtain ⟨s, h1⟩ := x
  exact ⟨s, (h _ _ hb).trans h1⟩
theorem ArgE.keep (h : Kp w w' B) (hB : B ≤ B') {b o : Nat} (hb : b < B) (x : ArgE w B b o) : ArgE w' B' b o := by
  obtain ⟨nm, v, h1, h2, h3⟩ := x
  exact ⟨nm, v, (h _ _ hb).trans h1, (h _ _ hb).trans h2, h3.imp hB fun _ _ hb x => CellE.keep h hb x⟩
theorem DirE.keep (h : Kp w w' B) (hB : B ≤ B') {b o : Nat} (hb : b < B) (x : DirE w B b o) : DirE w' B' b o := by
  obtain ⟨nm, v, h1, h2, h3⟩ := x
  exact ⟨nm, v, (h _ _ hb).trans h1, (h _ _ hb).trans h2, h3.imp hB fun _ _ hb x => ArgE.keep h hB hb x⟩
theorem InpE.keep (h : Kp w w' B) (hB : B ≤ B') {b o : Nat} (hb : b < B) (x : InpE w B b o) : InpE w' B' b o := by
  obtain ⟨nm, tn, WA, wn, wc, dv, gv, h1, h2, h3, h4, h5, h6, h7⟩ := x
  exact ⟨nm, tn, WA, wn, wc, dv, gv, (h _ _ hb).trans h1, (h _ _ hb).trans h2, (h _ _ hb).trans h3, (h _ _ hb).trans h4, (h _ _ hb).trans h5, h6.imp hB fun _ _ hb x => CellE.keep h hb x, h7.imp hB fun _ _ hb x => DirE.keep h hB hb x⟩
theorem FldE.keep (h : Kp w w' B) (hB : B ≤ B') {b o : Nat} (hb : b < B) (x : FldE w B b o) : FldE w' B' b o := by
  obtain ⟨nm, tn, WA, wn, wc, av, gv, h1, h2, h3, h4, h5, h6, h7⟩ := x
  exact ⟨nm, tn, WA, wn, wc, av, gv, (h _ _ hb).trans h1, (h _ _ hb).trans h2, (h _ _ hb).trans h3, (h _ _ hb).trans h4, (h _ _ hb).trans h5, h6.imp hB fun _ _ hb x => InpE.keep h hB hb x, h7.imp hB fun _ _ hb x => DirE.keep h hB hb x⟩
theorem DefE.keep (h : Kp w w' B) (hB : B ≤ B') {b o : Nat} (hb : b < B) (x : DefE w B b o) : DefE w' B' b o := by
  obtain ⟨kd, nm, gv, sv, iv, fv, h1, h2, h3, h4, h5, h6, g1, g2, g3, g4⟩ := x
  exact ⟨kd, nm, gv, sv, iv, fv, (h _ _ hb).trans h1, (h _ _ hb).trans h2, (h _ _ hb).trans h3, (h _ _ hb).trans h4, (h _ _ hb).trans h5, (h _ _ hb).trans h6, g1.imp hB fun _ _ hb x => DirE.keep h hB hb x, g2.imp hB fun _ _ hb x => StrE.keep h hb x, g3.imp hB fun _ _ hb x => InpE.keep h hB hb x, g4.imp hB fun _ _ hb x => FldE.keep h hB hb x⟩
end
theorem Sl.len {B sz : Nat} {P : Nat → Nat → Prop} {v : Value} (h : Sl B sz P v) : ∃ A n c, v = .slice A n c ∧ n ≤ 9223372036854775807 := by
  obtain ⟨A, n, c, e, hn, _⟩ := h
  exact ⟨A, n, c, e, hn⟩
/-- what the reference's Great answers, of memory as it lies -/
def strAt (w : World) (b o : Nat) : ByteArray := match w.cell? ⟨b, o, none⟩ with | some (.string s) => s | _ => ByteArray.empty
def slAt (w : World) (b o : Nat) : Value := (w.cell? ⟨b, o, none⟩).getD undef
theorem strAt_eq {w : World} {b o : Nat} {s : ByteArray} (h : w.cell? ⟨b, o, none⟩ = some (.string s)) : strAt w b o = s := by unfold strAt; rw [h]
theorem slAt_eq {w : World} {b o : Nat} {v : Value} (h : w.cell? ⟨b, o, none⟩ = some v) : slAt w b o = v := by unfold slAt; rw [h]; rfl
def lenV : Value → Nat | .slice _ n _ => n | _ => 0
def hits (P : Nat → Nat → Bool) (sz : Nat) (v : Value) (most : Nat) : Bool := match v with | .slice (some a) n _ => (List.range (min n most)).any fun k => P a.block (a.off + k * sz) | _ => false
def NoHit (P : Nat → Nat → Bool) (sz : Nat) (A : Option Addr) (k : Nat) : Prop := ∀ j, j < k → ∀ a, A = some a → P a.block (a.off + j * sz) = false
theorem NoHit.zero {P : Nat → Nat → Bool} {sz : Nat} {A : Option Addr} : NoHit P sz A 0 := fun j hj => by omega
theorem NoHit.succ {P : Nat → Nat → Bool} {sz k b off : Nat} (h : NoHit P sz (some ⟨b, off, none⟩) k) (hp : P b (off + k * sz) = false) : NoHit P sz (some ⟨b, off, none⟩) (k + 1) := by
  intro j hj a ha
  rcases Nat.lt_or_ge j k with h1 | h1
  · exact h j h1 a ha
  · obtain rfl : j = k := by omega
    cases ha
    exact hp
theorem hits_yes {P : Nat → Nat → Bool} {sz k b off n c most : Nat} (h1 : k < n) (h2 : k < most) (h : P b (off + k * sz) = true) : hits P sz (.slice (some ⟨b, off, none⟩) n c) most = true := by
  unfold hits
  rw [List.any_eq_true]
  exact ⟨k, by rw [List.mem_range]; omega, h⟩
theorem hits_no {P : Nat → Nat → Bool} {sz k n c most : Nat} {A : Option Addr} (h : NoHit P sz A k) (hk : min n most ≤ k) : hits P sz (.slice A n c) most = false := by
  cases A with
  | none => rfl
  | some a =>
    unfold hits
    rw [List.any_eq_false]
    intro j hj
    rw [List.mem_range] at hj
    rw [h j (by omega) a rfl]
    decide
def gCell (w : World) (b o : Nat) : Bool := decide (300 < (strAt w b (o + 1)).size) || decide (3000 < (strAt w b (o + 2)).size)
def gC (w : World) (most : Nat) (v : Value) : Bool := hits (gCell w) 5 v most || decide (most < lenV v)
def gArg (w : World) (b o : Nat) : Bool := gC w 60 (slAt w b (o + 1)) || decide (300 < (strAt w b o).size)
def sumV (w : World) (A : Option Addr) (k : Nat) : Nat := match A with | some a => ((List.range k).map fun j => lenV (slAt w a.block (a.off + j * 2 + 1))).sum | none => 0
def gArgs (w : World) (v : Value) : Bool := hits (gArg w) 2 v 30 || decide (20 < lenV v) || (match v with | .slice A n _ => decide (100 < sumV w A n) | _ => false)
def gDir (w : World) (b o : Nat) : Bool := gArgs w (slAt w b (o + 1)) || decide (300 < (strAt w b o).size)
def gDirs (w : World) (v : Value) : Bool := hits (gDir w) 2 v 30 || decide (10 < lenV v)
def gInp (w : World) (b o : Nat) : Bool := gC w 60 (slAt w b (o + 4)) || gDirs w (slAt w b (o + 5)) || decide (20 < lenV (slAt w b (o + 2))) || decide (300 < IntKind.i64.wrap ((strAt w b o).size + (strAt w b (o + 1)).size : Int))
def gInps (w : World) (v : Value) : Bool := hits (gInp w) 6 v 30 || decide (20 < lenV v)
def Det (b : Bool) (w : World) (e : Ending) (w' : World) : Prop := e = .returned (.bool b) ∧ ∃ n, w' = w.drewN n
theorem kp_drewN (w : World) (n B : Nat) : Kp w (w.drewN n) B := fun _ _ _ => rfl
theorem rb {a b : Bool} (h : b = a) : Ending.returned (.bool a) = .returned (.bool b) := by rw [h]
set_option maxHeartbeats 1000000 in
theorem greatC (v : Value) (most : Nat) (hm : most ≤ 200) (w : World) {B : Nat} (h : Sl B 5 (CellE w) v) : Calls Try.prog 18 #[v, .int .i64 most] w (Det (gC w most v) w) := by
  obtain ⟨A, n, c, rfl, hn, h⟩ := h
  unfold maxLen at hn
  have HH := Lib.hid h
  clear h
  obtain ⟨V, hV⟩ : ∃ V, gC w most (.slice A n c) = V := ⟨_, rfl⟩
  rw [hV]
  have HV := Lib.hid hV
  clear hV
  go_enter Try.func18, Try.ntmps18
  go_wp2_with fail
  go_loopw [5] (fun i wr => ∃ k : Nat, k ≤ n ∧ i = .int .i64 k ∧ w = wr ∧ NoHit (gCell w) 5 A k) (fun i _ => n - (RowKit.intOf i).toNat)
  case atStart => exact ⟨0, Nat.zero_le _, rfl, rfl, NoHit.zero⟩
  case round =>
    obtain ⟨k, hk, rfl, rfl, hno⟩ := hrel
    have HN := Lib.hid hno
    clear hno
    have hend : min n most ≤ k → V = decide (most < n) := by
      intro h
      rw [← HV.out]
      unfold gC
      rw [hits_no HN.out h]
      rfl
    have HEnd := Lib.hid hend
    clear hend
    by_cases hlt : k < n
    · obtain ⟨b, off, rfl, hb, hc⟩ : ∃ b off, A = some ⟨b, off, none⟩ ∧ b < B ∧ CellE w b (off + k * 5) := by
        rcases HH.out with h | ⟨b, off, e, hb, h⟩
        · omega
        · exact ⟨b, off, e, hb, h k hlt⟩
      obtain ⟨nm, tx, h1, h2⟩ := hc
      have hg : gCell w b (off + k * 5) = (decide (300 < nm.size) || decide (3000 < tx.size)) := by unfold gCell; rw [strAt_eq h1, strAt_eq h2]
      have HG := Lib.hid hg
      have hyes : k < most → (300 < nm.size ∨ 3000 < tx.size) → V = true := by
        intro h3 h4
        rw [← HV.out]
        unfold gC
        rw [hits_yes hlt h3 (by rw [HG.out]; simpa using h4)]
        rfl
      have HY := Lib.hid hyes
      clear HH hg hyes
      by_cases hlm : k < most
      · go_wp2_with fail
        all_goals first
          | (go_ret; exact ⟨rb (HY.out hlm (by omega)), ex_same⟩)
          | (go_roundw <;> first | exact ⟨k + 1, by omega, by go_num, by trivial, HN.out.succ (by rw [HG.out]; simp; omega)⟩ | (simp [RowKit.intOf]; omega))
      · go_wp2_with fail
        go_ret
        exact ⟨rb (by rw [HEnd.out (by omega)]), ex_same⟩
    · go_wp2_with fail
      go_ret
      exact ⟨rb (by rw [HEnd.out (by omega)]), ex_same⟩
theorem gC_len {w : World} {most : Nat} {A : Option Addr} {n c : Nat} (h : gC w most (.slice A n c) = false) : n ≤ most := by
  unfold gC at h
  rw [Bool.or_eq_false_iff] at h
  have h2 : ¬ most < n := of_decide_eq_false h.2
  omega
theorem sumV_succ {w : World} {b off k : Nat} {A : Option Addr} {n c : Nat} (h : w.cell? ⟨b, off + k * 2 + 1, none⟩ = some (.slice A n c)) : sumV w (some ⟨b, off, none⟩) (k + 1) = sumV w (some ⟨b, off, none⟩) k + n := by
  have e : ∀ k, sumV w (some ⟨b, off, none⟩) k = ((List.range k).map fun j => lenV (slAt w b (off + j * 2 + 1))).sum := fun _ => rfl
  rw [e, e, List.range_succ, List.map_append, List.sum_append]
  simp [slAt_eq h, lenV]
set_option maxHeartbeats 2000000 in
theorem greatArgs (v : Value) (w : World) {B : Nat} (h : Sl B 2 (ArgE w B) v) : Calls Try.prog 43 #[v] w (Det (gArgs w v) w) := by
  obtain ⟨A, n, c, rfl, hn, h⟩ := h
  unfold maxLen at hn
  have HH := Lib.hid h
  clear h
  obtain ⟨V, hV⟩ : ∃ V, gArgs w (.slice A n c) = V := ⟨_, rfl⟩
  rw [hV]
  have HV := Lib.hid hV
  clear hV
  go_enter Try.func43, Try.ntmps43
  go_wp2_with fail
  go_loopw [3, 4] (fun s i wr => ∃ k : Nat, k ≤ n ∧ i = .int .i64 k ∧ s = .int .i64 (sumV w A k : Nat) ∧ sumV w A k ≤ 60 * k ∧ NoHit (gArg w) 2 A k ∧ ∃ q, wr = w.drewN q) (fun _ i _ => n - (RowKit.intOf i).toNat)
  case atStart => exact ⟨0, Nat.zero_le _, rfl, by cases A <;> rfl, by cases A <;> simp [sumV], NoHit.zero, ex_same⟩
  case round =>
    obtain ⟨k, hk, rfl, rfl, hsum, hno, q, rfl⟩ := hrel
    have HN := Lib.hid hno
    have hend : min n 30 ≤ k → V = (decide (20 < n) || decide (100 < sumV w A n)) := by
      intro h
      rw [← HV.out]
      unfold gArgs
      rw [hits_no hno h]
      rfl
    have HEnd := Lib.hid hend
    clear hend hno
    by_cases hlt : k < n
    · obtain ⟨b, off, rfl, hb, hc⟩ : ∃ b off, A = some ⟨b, off, none⟩ ∧ b < B ∧ ArgE w B b (off + k * 2) := by
        rcases HH.out with h | ⟨b, off, e, hb, h⟩
        · omega
        · exact ⟨b, off, e, hb, h k hlt⟩
      obtain ⟨nm, va, h1, h2, h3⟩ := hc
      obtain ⟨A2, n2, c2, rfl, hn2⟩ := h3.len
      have hcall : ∀ m, Calls Try.prog 18 #[.slice A2 n2 c2, .int .i64 60] (w.drewN m) (Det (gC w 60 (.slice A2 n2 c2)) (w.drewN m)) := fun m => greatC _ 60 (by omega) (w.drewN m) (h3.imp (Nat.le_refl _) fun _ _ hb x => CellE.keep (kp_drewN w m B) hb x)
      have hg : gArg w b (off + k * 2) = (gC w 60 (.slice A2 n2 c2) || decide (300 < nm.size)) := by unfold gArg; rw [strAt_eq h1, slAt_eq h2]
      have hss := sumV_succ h2
      have hg60 := gC_len (w := w) (most := 60) (A := A2) (n := n2) (c := c2)
      generalize gC w 60 (.slice A2 n2 c2) = G at *
      have HG := Lib.hid hg
      have hyes : k < 30 → (G = true ∨ 300 < nm.size) → V = true := by
        intro h3 h4
        rw [← HV.out]
        unfold gArgs
        rw [hits_yes hlt h3 (by rw [HG.out]; simpa using h4)]
        rfl
      have HY := Lib.hid hyes
      have HC := Lib.hid hcall
      have HS := Lib.hid hss
      clear HH h3 hg hyes hcall hss
      by_cases hlm : k < 30
      · cases G
        · have h60 := hg60 rfl
          clear hg60
          generalize sumV w (some ⟨b, off, none⟩) k = z at *
          go_wp2_with fail
          refine (HC.out _).mono ?_
          rintro e w' ⟨rfl, m, rfl⟩
          rw [World.drewN_drewN]
          go_wp2_with fail
          all_goals first
            | (go_ret; exact ⟨rb (HY.out hlm (.inr (by omega))), ex_drew0⟩)
            | (go_roundw <;> first | exact ⟨k + 1, by omega, by go_num, by rw [HS.out]; go_num, by rw [HS.out]; omega, HN.out.succ (by rw [HG.out]; simp; omega), ex_drew0⟩ | (simp [RowKit.intOf]; omega))
        · clear hg60
          generalize sumV w (some ⟨b, off, none⟩) k = z at *
          go_wp2_with fail
          refine (HC.out _).mono ?_
          rintro e w' ⟨rfl, m, rfl⟩
          rw [World.drewN_drewN]
          go_wp2_with fail
          go_ret
          exact ⟨rb (HY.out hlm (.inl (by trivial))), ex_drew0⟩
      · have h20 : 20 < n := by omega
        clear hg60
        generalize sumV w (some ⟨b, off, none⟩) k = z at *
        go_wp2_with fail
        go_ret
        exact ⟨rb (by rw [HEnd.out (by omega), decide_eq_true h20]; rfl), ex_drew0⟩
    · obtain rfl : k = n := by omega
      generalize sumV w A k = z at *
      by_cases h20 : 20 < k
      · go_wp2_with fail
        go_ret
        exact ⟨rb (by rw [HEnd.out (by omega), decide_eq_true h20]; rfl), ex_drew0⟩
      · go_wp2_with fail
        go_ret
        exact ⟨rb (by rw [HEnd.out (by omega), decide_eq_false h20, Bool.false_or, Bool.eq_iff_iff]; simp; omega), ex_drew0⟩
set_option maxHeartbeats 2000000 in
theorem greatDirs (v : Value) (w : World) {B : Nat} (h : Sl B 2 (DirE w B) v) : Calls Try.prog 31 #[v] w (Det (gDirs w v) w) := by
  obtain ⟨A, n, c, rfl, hn, h⟩ := h
  unfold maxLen at hn
  have HH := Lib.hid h
  clear h
  obtain ⟨V, hV⟩ : ∃ V, gDirs w (.slice A n c) = V := ⟨_, rfl⟩
  rw [hV]
  have HV := Lib.hid hV
  clear hV
  go_enter Try.func31, Try.ntmps31
  go_wp2_with fail
  go_loopw [3] (fun i wr => ∃ k : Nat, k ≤ n ∧ i = .int .i64 k ∧ NoHit (gDir w) 2 A k ∧ ∃ q, wr = w.drewN q) (fun i _ => n - (RowKit.intOf i).toNat)
  case atStart => exact ⟨0, Nat.zero_le _, rfl, NoHit.zero, ex_same⟩
  case round =>
    obtain ⟨k, hk, rfl, hno, q, rfl⟩ := hrel
    have HN := Lib.hid hno
    have hend : min n 30 ≤ k → V = decide (10 < n) := by
      intro h
      rw [← HV.out]
      unfold gDirs
      rw [hits_no hno h]
      rfl
    have HEnd := Lib.hid hend
    clear hend hno
    by_cases hlt : k < n
    · obtain ⟨b, off, rfl, hb, hc⟩ : ∃ b off, A = some ⟨b, off, none⟩ ∧ b < B ∧ DirE w B b (off + k * 2) := by
        rcases HH.out with h | ⟨b, off, e, hb, h⟩
        · omega
        · exact ⟨b, off, e, hb, h k hlt⟩
      obtain ⟨nm, va, h1, h2, h3⟩ := hc
      obtain ⟨A2, n2, c2, rfl, hn2⟩ := h3.len
      have hcall : ∀ m, Calls Try.prog 43 #[.slice A2 n2 c2] (w.drewN m) (Det (gArgs w (.slice A2 n2 c2)) (w.drewN m)) := fun m => greatArgs _ (w.drewN m) (h3.imp (Nat.le_refl _) fun _ _ hb x => ArgE.keep (kp_drewN w m B) (Nat.le_refl _) hb x)
      have hg : gDir w b (off + k * 2) = (gArgs w (.slice A2 n2 c2) || decide (300 < nm.size)) := by unfold gDir; rw [strAt_eq h1, slAt_eq h2]
      generalize gArgs w (.slice A2 n2 c2) = G at *
      have HG := Lib.hid hg
      have hyes : k < 30 → (G = true ∨ 300 < nm.size) → V = true := by
        intro h3 h4
        rw [← HV.out]
        unfold gDirs
        rw [hits_yes hlt h3 (by rw [HG.out]; simpa using h4)]
        rfl
      have HY := Lib.hid hyes
      have HC := Lib.hid hcall
      clear HH h3 hg hyes hcall
      by_cases hlm : k < 30
      · cases G
        · go_wp2_with fail
          refine (HC.out _).mono ?_
          rintro e w' ⟨rfl, m, rfl⟩
          rw [World.drewN_drewN]
          go_wp2_with fail
          all_goals first
            | (go_ret; exact ⟨rb (HY.out hlm (.inr (by omega))), ex_drew0⟩)
            | (go_roundw <;> first | exact ⟨k + 1, by omega, by go_num, HN.out.succ (by rw [HG.out]; simp; omega), ex_drew0⟩ | (simp [RowKit.intOf]; omega))
        · go_wp2_with fail
          refine (HC.out _).mono ?_
          rintro e w' ⟨rfl, m, rfl⟩
          rw [World.drewN_drewN]
          go_wp2_with fail
          go_ret
          exact ⟨rb (HY.out hlm (.inl (by trivial))), ex_drew0⟩
      · go_wp2_with fail
        go_ret
        exact ⟨rb (by rw [HEnd.out (by omega)] <;> (rw [Bool.eq_iff_iff]; simp; omega)), ex_drew0⟩
    · go_wp2_with fail
      go_ret
      exact ⟨rb (by rw [HEnd.out (by omega)] <;> (rw [Bool.eq_iff_iff]; simp; omega)), ex_drew0⟩
set_option maxHeartbeats 8000000 in
set_option maxRecDepth 100000 in
theorem greatInps (v : Value) (w : World) {B : Nat} (h : Sl B 6 (InpE w B) v) : Calls Try.prog 44 #[v] w (Det (gInps w v) w) := by
  obtain ⟨A, n, c, rfl, hn, h⟩ := h
  unfold maxLen at hn
  have HH := Lib.hid h
  clear h
  obtain ⟨V, hV⟩ : ∃ V, gInps w (.slice A n c) = V := ⟨_, rfl⟩
  rw [hV]
  have HV := Lib.hid hV
  clear hV
  go_enter Try.func44, Try.ntmps44
  go_wp2_with fail
  go_loopw [3] (fun i wr => ∃ k : Nat, k ≤ n ∧ i = .int .i64 k ∧ NoHit (gInp w) 6 A k ∧ ∃ q, wr = w.drewN q) (fun i _ => n - (RowKit.intOf i).toNat)
  case atStart => exact ⟨0, Nat.zero_le _, rfl, NoHit.zero, ex_same⟩
  case round =>
    obtain ⟨k, hk, rfl, hno, q, rfl⟩ := hrel
    have HN := Lib.hid hno
    have hend : min n 30 ≤ k → V = decide (20 < n) := by
      intro h
      rw [← HV.out]
      unfold gInps
      rw [hits_no hno h]
      rfl
    have HEnd := Lib.hid hend
    clear hend hno
    by_cases hlt : k < n
    · obtain ⟨b, off, rfl, hb, hc⟩ : ∃ b off, A = some ⟨b, off, none⟩ ∧ b < B ∧ InpE w B b (off + k * 6) := by
        rcases HH.out with h | ⟨b, off, e, hb, h⟩
        · omega
        · exact ⟨b, off, e, hb, h k hlt⟩
      obtain ⟨nm, tn, WA, wn, wc, dv, gv, h0, h1, h2, h4, h5, h6, h7⟩ := hc
      obtain ⟨A2, n2, c2, rfl, hn2⟩ := h6.len
      obtain ⟨A3, n3, c3, rfl, hn3⟩ := h7.len
      obtain ⟨wo, hwo⟩ : ∃ wo, w.drewN q = wo := ⟨_, rfl⟩
      have e0 : wo.cell? ⟨b, off + k * 6, none⟩ = some (.string nm) := by rw [← hwo]; exact h0
      have e1 : wo.cell? ⟨b, off + k * 6 + 1, none⟩ = some (.string tn) := by rw [← hwo]; exact h1
      have e2 : wo.cell? ⟨b, off + k * 6 + 2, none⟩ = some (.slice WA wn wc) := by rw [← hwo]; exact h2
      have e4 : wo.cell? ⟨b, off + k * 6 + 4, none⟩ = some (.slice A2 n2 c2) := by rw [← hwo]; exact h4
      have e5 : wo.cell? ⟨b, off + k * 6 + 5, none⟩ = some (.slice A3 n3 c3) := by rw [← hwo]; exact h5
      have hc1 : ∀ m, Calls Try.prog 18 #[.slice A2 n2 c2, .int .i64 60] (wo.drewN m) (Det (gC w 60 (.slice A2 n2 c2)) (wo.drewN m)) := by
        rw [← hwo]
        exact fun m => greatC _ 60 (by omega) ((w.drewN q).drewN m) (h6.imp (Nat.le_refl _) fun _ _ hb x => CellE.keep (fun _ _ _ => rfl) hb x)
      have hc2 : ∀ m, Calls Try.prog 31 #[.slice A3 n3 c3] (wo.drewN m) (Det (gDirs w (.slice A3 n3 c3)) (wo.drewN m)) := by
        rw [← hwo]
        exact fun m => greatDirs _ ((w.drewN q).drewN m) (h7.imp (Nat.le_refl _) fun _ _ hb x => DirE.keep (fun _ _ _ => rfl) (Nat.le_refl _) hb x)
      have hfin : ∀ n, ∃ q', wo.drewN n = w.drewN q' := fun n => ⟨q + n, by rw [← hwo, World.drewN_drewN]⟩
      have hg : gInp w b (off + k * 6) = (gC w 60 (.slice A2 n2 c2) || gDirs w (.slice A3 n3 c3) || decide (20 < wn) || decide (300 < IntKind.i64.wrap (nm.size + tn.size : Int))) := by
        unfold gInp
        rw [strAt_eq h0, strAt_eq h1, slAt_eq h2, slAt_eq h4, slAt_eq h5]
        rfl
      generalize gC w 60 (.slice A2 n2 c2) = G at *
      generalize gDirs w (.slice A3 n3 c3) = H at *
      obtain ⟨Z, hZ⟩ : ∃ Z, IntKind.i64.wrap (nm.size + tn.size : Int) = Z := ⟨_, rfl⟩
      rw [hZ] at hg
      have HG := Lib.hid hg
      have hyes : k < 30 → (G = true ∨ H = true ∨ 20 < wn ∨ 300 < Z) → V = true := by
        intro h3 h4
        rw [← HV.out]
        unfold gInps
        rw [hits_yes hlt h3 (by rw [HG.out]; rcases h4 with h | h | h | h <;> simp [h])]
        rfl
      have hnot : G = false → H = false → ¬ 20 < wn → ¬ 300 < Z → gInp w b (off + k * 6) = false := by
        intro a1 a2 a3 a4
        rw [HG.out, a1, a2, decide_eq_false a3, decide_eq_false a4]
        rfl
      have HY := Lib.hid hyes
      have HNo := Lib.hid hnot
      have HC1 := Lib.hid hc1
      have HC2 := Lib.hid hc2
      have HF := Lib.hid hfin
      rw [hwo]
      clear HH h6 h7 hg hyes hnot hc1 hc2 HG hfin hwo h0 h1 h2 h4 h5
      by_cases hlm : k < 30
      · have i0 : (0 : Int) ≤ (k : Int) := by omega
        have i1 : (k : Int) < (n : Int) := by omega
        cases G
        case true =>
          go_wp2_with fail
          go_quiet ((first | (go_at_call 18; exact Calls.quiet_of (HC1.out _)) | (go_at_call 31; exact Calls.quiet_of (HC2.out _))))
          go_wp2_with fail
          go_ret
          exact ⟨rb (HY.out hlm (.inl (by trivial))), HF.out _⟩
        case false =>
          cases H
          case true =>
            go_wp2_with fail
            go_quiet ((first | (go_at_call 18; exact Calls.quiet_of (HC1.out _)) | (go_at_call 31; exact Calls.quiet_of (HC2.out _))))
            go_wp2_with fail
            go_ret
            exact ⟨rb (HY.out hlm (.inr (.inl (by trivial)))), HF.out _⟩
          case false =>
            by_cases hw20 : 20 < wn
            · have hwI : decide ((20 : Int) < (wn : Int)) = true := by simp; omega
              go_wp2_with fail
              go_quiet ((first | (go_at_call 18; exact Calls.quiet_of (HC1.out _)) | (go_at_call 31; exact Calls.quiet_of (HC2.out _))))
              go_wp2_with fail
              go_ret
              exact ⟨rb (HY.out hlm (.inr (.inr (.inl hw20)))), HF.out _⟩
            · have hwI : decide ((20 : Int) < (wn : Int)) = false := by simp; omega
              by_cases hz : 300 < Z
              · have hzI : decide (300 < Z) = true := by simpa using hz
                go_wp2_with fail
                go_quiet ((first | (go_at_call 18; exact Calls.quiet_of (HC1.out _)) | (go_at_call 31; exact Calls.quiet_of (HC2.out _))))
                go_wp2_with fail
                go_ret
                exact ⟨rb (HY.out hlm (.inr (.inr (.inr hz)))), HF.out _⟩
              · have hzI : decide (300 < Z) = false := by simpa using hz
                go_wp2_with fail
                go_quiet ((first | (go_at_call 18; exact Calls.quiet_of (HC1.out _)) | (go_at_call 31; exact Calls.quiet_of (HC2.out _))))
                go_wp2_with fail
                go_roundw
                case rel => exact ⟨k + 1, by omega, by go_num, HN.out.succ (HNo.out (by trivial) (by trivial) hw20 (by omega)), HF.out _⟩
                case measure => simp [RowKit.intOf]; omega
      · go_wp2_with fail
        go_ret
        exact ⟨rb (by rw [HEnd.out (by omega)] <;> (rw [Bool.eq_iff_iff]; simp; omega)), HF.out 0⟩
    · go_wp2_with fail
      go_ret
      exact ⟨rb (by rw [HEnd.out (by omega)] <;> (rw [Bool.eq_iff_iff]; simp; omega)), ex_drew0⟩
end Go.Proofs.Ytgoecnhkmfnenaa
