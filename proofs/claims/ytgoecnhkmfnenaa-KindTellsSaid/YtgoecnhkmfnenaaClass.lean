/- Contracts of scalar.Of and of kind.Class: what a name is. Conditions: lengths within the model's. -/
import Derived.Test.YtgoecnhkmfnenaaKAlive
import Derived.Maps.Own
import Derived.Maps.OwnOps
import Derived.Maps.OwnSet
namespace Go.Proofs.Ytgoecnhkmfnenaa
open Go.RowKit Go.Maps
/-- the scalars' names -/
def scn : List ByteArray := [⟨#[73, 110, 116]⟩, ⟨#[83, 116, 114, 105, 110, 103]⟩, ⟨#[66, 111, 111, 108, 101, 97, 110]⟩, ⟨#[73, 68]⟩, ⟨#[68, 97, 116, 101, 84, 105, 109, 101]⟩, ⟨#[85, 85, 73, 68]⟩, ⟨#[68, 101, 99, 105, 109, 97, 108]⟩, ⟨#[85, 82, 76]⟩]
theorem idxFrom_bound (s : ByteArray) : ∀ (zs : List ByteArray) (i : Nat), Lib.idxFromS zs s i = -1 ∨ ∃ k : Nat, k < zs.length ∧ Lib.idxFromS zs s i = ((i + k : Nat) : Int)
  | [], _ => .inl rfl
  | z :: zs, i => by
    by_cases h : z = s
    · exact .inr ⟨0, by simp, by simp [Lib.idxFromS, h]⟩
    · rcases idxFrom_bound s zs (i + 1) with e | ⟨k, hk, e⟩
      · exact .inl (by simp [Lib.idxFromS, h, e])
      · exact .inr ⟨k + 1, by simp; omega, by simp only [Lib.idxFromS, h, if_false, e]; congr 1; omega⟩
theorem idx_bound (s : ByteArray) : -1 ≤ Lib.idxOfS scn s ∧ Lib.idxOfS scn s < 8 := by
  rcases idxFrom_bound s scn 0 with e | ⟨k, hk, e⟩
  · rw [Lib.idxOfS, e]; decide
  · rw [Lib.idxOfS, e]
    have : k < 8 := hk
    omega
theorem names_any (w : World) : Calls Try.prog 42 #[] w fun e w' =>
    e = .returned (.slice (some ⟨w.heap.size, 0, none⟩) 8 8) ∧ w' = w.alloc (.cells (sv scn).toArray 9) := by
  go_enter Try.func42, Try.ntmps42
  go_wp2
  go_ret
  exact ⟨rfl, rfl⟩
theorem scn_at (w : World) (j : Nat) (h : j < scn.length) : (w.alloc (.cells (sv scn).toArray 9)).cell? ⟨w.heap.size, 0 + j, none⟩ = some (.string (scn.getD j ByteArray.empty)) := by
  rw [World.cell?_alloc_at _ _ _ _ rfl]
  have h2 : j < (sv scn).length := by rw [sv_len]; exact h
  rw [Nat.zero_add, List.getElem?_toArray, List.getElem?_eq_getElem h2]
  simp [sv, List.getD, List.getElem?_eq_getElem h]
set_option maxHeartbeats 2000000 in
theorem scof_any (s : ByteArray) (w : World) : Calls Try.prog 30 #[.string s] w fun e w' =>
    e = .returned (.tuple #[.int .u8 (Lib.idxOfS scn s + 1), .bool (decide (0 ≤ Lib.idxOfS scn s))]) ∧ Below w.heap.size w w' := by
  have hi := fun W hc => Try.slices_Index_string w.heap.size 0 8 8 scn s W (by decide) (by decide) hc
  obtain ⟨b1, b2⟩ := idx_bound s
  rw [show scn.take 8 = scn from rfl] at hi
  generalize Lib.idxOfS scn s = r at *
  go_enter Try.func30, Try.ntmps30
  go_wp2_with fail
  refine (names_any _).mono ?_
  rintro e w1 ⟨rfl, rfl⟩
  go_wp2_with fail
  refine (hi _ (fun j hj => scn_at w j hj)).mono ?_
  rintro e w2 ⟨rfl, rfl⟩
  clear hi
  go_wp2
  go_ret2
  exact ⟨rfl, (Below.refl _ _).alloc (Nat.le_refl _) _⟩
/-- definitions in memory: their kinds and names -/
def DRd (w : World) (B : Nat) (A : Option Addr) (ds : List (UInt8 × ByteArray)) : Prop :=
  ds = [] ∨ ∃ b off, A = some ⟨b, off, none⟩ ∧ b < B ∧ ∀ (k : Nat) (h : k < ds.length), w.cell? ⟨b, off + k * 6, none⟩ = some (.int .u8 ds[k].1.toNat) ∧ w.cell? ⟨b, off + k * 6 + 1, none⟩ = some (.string ds[k].2) ∧
    (∃ A2 n2 c2, w.cell? ⟨b, off + k * 6 + 2, none⟩ = some (.slice A2 n2 c2)) ∧ (∃ A2 n2 c2, w.cell? ⟨b, off + k * 6 + 3, none⟩ = some (.slice A2 n2 c2)) ∧ (∃ A2 n2 c2, w.cell? ⟨b, off + k * 6 + 4, none⟩ = some (.slice A2 n2 c2)) ∧ (∃ A2 n2 c2, w.cell? ⟨b, off + k * 6 + 5, none⟩ = some (.slice A2 n2 c2))
theorem DRd.via {w w' : World} {B B' : Nat} {A : Option Addr} {ds : List (UInt8 × ByteArray)} (hb : Below B' w w') (h : DRd w B A ds) (hB : B ≤ B') : DRd w' B A ds := by
  rcases h with rfl | ⟨b, off, e, hlt, hc⟩
  · exact .inl rfl
  · refine .inr ⟨b, off, e, hlt, fun k hk => ?_⟩
    obtain ⟨h0, h1, ⟨_, _, _, h2⟩, ⟨_, _, _, h3⟩, ⟨_, _, _, h4⟩, ⟨_, _, _, h5⟩⟩ := hc k hk
    have hx : ∀ o, w'.cell? ⟨b, o, none⟩ = w.cell? ⟨b, o, none⟩ := fun o => hb.cell (p := ⟨b, o, none⟩) (Nat.lt_of_lt_of_le hlt hB)
    exact ⟨(hx _).trans h0, (hx _).trans h1, ⟨_, _, _, (hx _).trans h2⟩, ⟨_, _, _, (hx _).trans h3⟩, ⟨_, _, _, (hx _).trans h4⟩, ⟨_, _, _, (hx _).trans h5⟩⟩
def hitD (d : UInt8 × ByteArray) (s : ByteArray) : Bool := decide (1 ≤ d.1.toNat ∧ d.1.toNat ≤ 3) && decide (d.2 = s)
def clsD : List (UInt8 × ByteArray) → ByteArray → Nat → Nat × Nat
  | [], _, _ => (0, 0)
  | d :: ds, s, k => if hitD d s = true then (d.1.toNat + 1, k) else clsD ds s (k + 1)
def clsV (ds : List (UInt8 × ByteArray)) (s : ByteArray) : Int × Int :=
  if 0 ≤ Lib.idxOfS scn s then (1, Lib.idxOfS scn s + 1) else (((clsD ds s 0).1 : Int), ((clsD ds s 0).2 : Int))
theorem kl_u8 : Keyed Try.prog 5 := int_keyed Try.underlying5
theorem zero_u8 (w : World) : (zeroValue 5).run Try.prog w = .ok (.int .u8 0) w := by kernel_rfl
theorem u8_wf (x : UInt8) : (Lit.int .u8 x.toNat).wf = true := by
  have h := x.toNat_lt
  have e : (Lit.int .u8 x.toNat).wf = (decide ((0 : Int) ≤ x.toNat) && decide ((x.toNat : Int) ≤ 255)) := rfl
  rw [e, Bool.and_eq_true, decide_eq_true_eq, decide_eq_true_eq]
  omega
/-- the three classes -/
def d3 : DataW Unit := .map [(.int .u8 1, .lit (.int .u8 2)), (.int .u8 2, .lit (.int .u8 3)), (.int .u8 3, .lit (.int .u8 4))]
theorem d3_eq : (((DataW.map (H := Unit) []).put (.int .u8 1) (.lit (.int .u8 2))).put (.int .u8 2) (.lit (.int .u8 3))).put (.int .u8 3) (.lit (.int .u8 4)) = d3 := by rfl
theorem d3_has (n : Nat) : Maps.has d3 (.int .u8 n) = decide (1 ≤ n ∧ n ≤ 3) := by
  match n with
  | 0 => rfl
  | 1 => rfl
  | 2 => rfl
  | 3 => rfl
  | n + 4 =>
    have h1 : decide (1 ≤ n + 4 ∧ n + 4 ≤ 3) = false := by simp
    rw [h1]
    simp [d3, Maps.has, Lit.sameKey]
    omega
theorem d3_at (n : Nat) (h : 1 ≤ n ∧ n ≤ 3) : d3.atKey (.int .u8 n) (.lit (.int .u8 0)) = .lit (.int .u8 (n + 1)) := by
  match n with
  | 0 => omega
  | 1 => rfl
  | 2 => rfl
  | 3 => rfl
  | n + 4 => omega
set_option maxRecDepth 100000 in
set_option maxHeartbeats 4000000 in
theorem class_any (A : Option Addr) (c : Nat) (ds : List (UInt8 × ByteArray)) (s : ByteArray) (w : World) {B : Nat} (hx : DRd w B A ds) (hB : B ≤ w.heap.size) (hn : ds.length ≤ 1000) : Calls Try.prog 15 #[.slice A ds.length c, .string s] w fun e w' =>
    e = .returned (.tuple #[.int .u8 (clsV ds s).1, .int .i64 (clsV ds s).2]) ∧ Below w.heap.size w w' := by
  have hof := scof_any s w
  obtain ⟨b1, b2⟩ := idx_bound s
  have hV : clsV ds s = if 0 ≤ Lib.idxOfS scn s then (1, Lib.idxOfS scn s + 1) else (((clsD ds s 0).1 : Int), ((clsD ds s 0).2 : Int)) := rfl
  have HV := Lib.hid hV
  clear hV
  generalize Lib.idxOfS scn s = r at *
  have hmm := @run_makeMap Try.prog
  by_cases hr : 0 ≤ r
  · have hd : decide (0 ≤ r) = true := by simpa using hr
    rw [hd] at hof
    go_enter Try.func15, Try.ntmps15
    go_wp2_with fail
    refine hof.mono ?_
    rintro e w1 ⟨rfl, hb1⟩
    go_wp2
    go_ret2
    exact ⟨by rw [HV.out, if_pos hr]; rfl, hb1⟩
  · have hd : decide (0 ≤ r) = false := by simpa using hr
    rw [hd] at hof
    go_enter Try.func15, Try.ntmps15
    go_wp2_with fail
    refine hof.mono ?_
    rintro e w1 ⟨rfl, hb1⟩
    go_wp2
    obtain ⟨w2, hr2, o2, g2⟩ := (World.ownsMap_made w1 Try.prog 5 (plainElem (H := Unit) Try.prog 5)).update (t := 77) kl_u8 Try.underlying77 (by decide) (key := .int .u8 1) (val := .int .u8 2) (keyOf_int_mk Try.underlying5 (by decide)) (plainElem_int Try.underlying5 (by decide))
    rw [hr2]
    clear hr2
    go_wp2
    obtain ⟨w3, hr3, o3, g3⟩ := o2.update (t := 77) kl_u8 Try.underlying77 (by decide) (key := .int .u8 2) (val := .int .u8 3) (keyOf_int_mk Try.underlying5 (by decide)) (plainElem_int Try.underlying5 (by decide))
    rw [hr3]
    clear hr3 o2
    go_wp2
    obtain ⟨w4, hr4, o4, g4⟩ := o3.update (t := 77) kl_u8 Try.underlying77 (by decide) (key := .int .u8 3) (val := .int .u8 4) (keyOf_int_mk Try.underlying5 (by decide)) (plainElem_int Try.underlying5 (by decide))
    rw [hr4]
    clear hr4 o3
    rw [d3_eq] at o4
    have hs1 := hb1.size
    have hb2 : Below w.heap.size w (w1.alloc (.map #[] 0)) := hb1.alloc hs1 _
    have hb3 : Below w.heap.size w w2 := hb2.grown g2 (by simp; omega) (fun j hj => by cases hj; exact hs1)
    have hb4 : Below w.heap.size w w3 := hb3.grown g3 hb3.size (fun j hj => by cases hj; exact hs1)
    have hb5 : Below w.heap.size w w4 := hb4.grown g4 hb4.size (fun j hj => by cases hj; exact hs1)
    generalize hbm : w1.heap.size = bm at *
    clear hbm hb1 hb2 hb3 hb4 g2 g3 g4 hof hmm hs1
    go_wp2
    go_loopw [25] (fun i wr => ∃ k : Nat, k ≤ ds.length ∧ i = .int .i64 k ∧ Below w.heap.size w wr ∧ wr.ownsMap Try.prog 5 (plainElem (H := Unit) Try.prog 5) bm 3 d3 ∧ clsD ds s 0 = clsD (ds.drop k) s k) (fun i _ => ds.length - (intOf i).toNat)
    case atStart => exact ⟨0, Nat.zero_le _, rfl, hb5, o4, by rw [List.drop_zero]⟩
    case round =>
      obtain ⟨k, hk, rfl, hb, hown, hcl⟩ := hrel
      have HC := Lib.hid hcl
      clear hcl
      by_cases hlt : k < ds.length
      · obtain ⟨b, off, rfl, hlb, hcell⟩ : ∃ b off, A = some ⟨b, off, none⟩ ∧ b < w.heap.size ∧ _ := by
          rcases hx.via hb hB with h | ⟨b, off, e, h1, h2⟩
          · subst h; simp at hlt
          · exact ⟨b, off, e, Nat.lt_of_lt_of_le h1 hB, h2 k hlt⟩
        obtain ⟨h0, h1, ⟨A2, n2, c2, h2⟩, ⟨A3, n3, c3, h3⟩, ⟨A4, n4, c4, h4⟩, ⟨A5, n5, c5, h5⟩⟩ := hcell
        have hq := d3_has ds[k].1.toNat
        have hq2 := d3_at ds[k].1.toNat
        have hdrop : clsD (ds.drop k) s k = if hitD ds[k] s = true then (ds[k].1.toNat + 1, k) else clsD (ds.drop (k + 1)) s (k + 1) := by
          rw [List.drop_eq_getElem_cons hlt, clsD]
        have HD := Lib.hid hdrop
        have hkd : hitD ds[k] s = (decide (1 ≤ ds[k].1.toNat ∧ ds[k].1.toNat ≤ 3) && decide (ds[k].2 = s)) := rfl
        have hb' : Below w.heap.size w (wr.alloc (.cells #[.int .u8 ds[k].1.toNat, .string ds[k].2, .slice A2 n2 c2, .slice A3 n3 c3, .slice A4 n4 c4, .slice A5 n5 c5] 46)) := hb.alloc hb.size _
        by_cases hin : 1 ≤ ds[k].1.toNat ∧ ds[k].1.toNat ≤ 3
        · have hx2 : ∀ cv : Int, d3.atKey (.int .u8 ds[k].1.toNat) (.lit (.int .u8 0)) = .lit (.int .u8 cv) → cv = ds[k].1.toNat + 1 := by
            intro cv hat
            rw [hq2 hin] at hat
            simpa using hat.symm
          rw [decide_eq_true hin] at hq hkd
          have HQ := Lib.hid hq
          have HX := Lib.hid hx2
          have h9 : (ds[k].1.toNat : Int) + 1 ≤ 4 := by omega
          clear hq hq2 hx2 hin
          by_cases hs : ds[k].2 = s
          · have hs' : (ds[k].2.toList == s.toList) = true := by rw [ba_beq]; simpa using hs
            have hhit : hitD ds[k] s = true := by rw [hkd]; simpa using hs
            rw [if_pos hhit] at hdrop
            have HD := Lib.hid hdrop
            clear hs hdrop hhit hkd
            go_wp2_with (at_lookup; refine wpList_lookup_own_ok_int _ rfl _ _ 77 rfl 5 5 .u8 kl_u8 Try.underlying77 Try.underlying5 (zero_u8 _) bm 3 d3 rfl (hown.alloc _) _ _ rfl (keyOf_int_mk Try.underlying5 (u8_wf _)) ?_; intro cv hat hwc; rw [HQ.out]; obtain rfl := HX.out cv hat; clear hat)
            go_ret2
            refine ⟨?_, hb'⟩
            rw [HV.out, if_neg (by omega), HC.out, HD.out]
            rfl
          · have hs' : (ds[k].2.toList == s.toList) = false := by rw [ba_beq]; simpa using hs
            have hhit : ¬ hitD ds[k] s = true := by rw [hkd]; simpa using hs
            rw [if_neg hhit] at hdrop
            have HD := Lib.hid hdrop
            clear hs hdrop hhit hkd
            go_wp2_with (at_lookup; refine wpList_lookup_own_ok_int _ rfl _ _ 77 rfl 5 5 .u8 kl_u8 Try.underlying77 Try.underlying5 (zero_u8 _) bm 3 d3 rfl (hown.alloc _) _ _ rfl (keyOf_int_mk Try.underlying5 (u8_wf _)) ?_; intro cv hat hwc; rw [HQ.out]; obtain rfl := HX.out cv hat; clear hat)
            go_roundw
            case rel => exact ⟨k + 1, by omega, by go_num, hb', hown.alloc _, by rw [HC.out, HD.out]⟩
            case measure => simp [intOf]; omega
        · rw [decide_eq_false hin] at hq hkd
          have hhit : ¬ hitD ds[k] s = true := by rw [hkd]; simp
          rw [if_neg hhit] at hdrop
          have HD := Lib.hid hdrop
          have HQ := Lib.hid hq
          clear hq hq2 hin hdrop hhit hkd
          go_wp2_with (at_lookup; refine wpList_lookup_own_ok_int _ rfl _ _ 77 rfl 5 5 .u8 kl_u8 Try.underlying77 Try.underlying5 (zero_u8 _) bm 3 d3 rfl (hown.alloc _) _ _ rfl (keyOf_int_mk Try.underlying5 (u8_wf _)) ?_; intro cv hat hwc; rw [HQ.out]; clear hat)
          go_roundw
          case rel => exact ⟨k + 1, by omega, by go_num, hb', hown.alloc _, by rw [HC.out, HD.out]⟩
          case measure => simp [intOf]; omega
      · obtain rfl : k = ds.length := by omega
        go_wp2
        go_ret2
        refine ⟨?_, hb⟩
        rw [HV.out, if_neg (by omega), HC.out, List.drop_length]
        rfl

end Go.Proofs.Ytgoecnhkmfnenaa
