/- The reference's Named, Of, Class, wrapped, Non, in: in the program's own terms. Conditions: lengths within the model's. -/
import Derived.Test.YtgoecnhkmfnenaaClass
import Derived.Deep.QuietTactic
import Derived.BigQuiet
namespace Go.Proofs.Ytgoecnhkmfnenaa
open Go.RowKit
theorem bt2 {B : Nat} {a w w' : World} (h : Below B a w) (hB : B ≤ w.heap.size) (hb : Below w.heap.size w w') : Below B a w' := h.trans (hb.mono hB)
theorem bAl2 (w : World) (o : Obj) : Below w.heap.size w (w.alloc o) := (Below.refl _ _).alloc (Nat.le_refl _) _
theorem named_idx : ∀ (k : Nat) (_ : k < 8) (W : World), (Instr.index 101 (.agg #[.string ⟨#[]⟩, .string ⟨#[73, 110, 116]⟩, .string ⟨#[83, 116, 114, 105, 110, 103]⟩, .string ⟨#[66, 111, 111, 108, 101, 97, 110]⟩, .string ⟨#[73, 68]⟩, .string ⟨#[68, 97, 116, 101, 84, 105, 109, 101]⟩, .string ⟨#[85, 85, 73, 68]⟩, .string ⟨#[68, 101, 99, 105, 109, 97, 108]⟩, .string ⟨#[85, 82, 76]⟩]) (.int .u8 ((k : Int) + 1))).run Try.prog W = .ok (.string (scn.getD k ByteArray.empty)) W
  | 0, _, _ => by kernel_rfl
  | 1, _, _ => by kernel_rfl
  | 2, _, _ => by kernel_rfl
  | 3, _, _ => by kernel_rfl
  | 4, _, _ => by kernel_rfl
  | 5, _, _ => by kernel_rfl
  | 6, _, _ => by kernel_rfl
  | 7, _, _ => by kernel_rfl
  | k + 8, h, _ => absurd h (by omega)
set_option maxHeartbeats 1000000 in
theorem named_ref (k : Nat) (hk : k < 8) (w : World) : Calls Try.prog 45 #[.int .u8 ((k : Int) + 1)] w fun e w' => e = .returned (.string (scn.getD k ByteArray.empty)) ∧ w = w' := by
  have hi := named_idx k hk
  generalize scn.getD k ByteArray.empty = S at *
  go_enter Try.func45, Try.ntmps45
  go_wp2_with fail
  go_ret
  exact ⟨rfl, rfl⟩
theorem idx_drop (s : ByteArray) (k : Nat) (hk : k < 8) : Lib.idxFromS (scn.drop k) s k = if scn.getD k ByteArray.empty = s then (k : Int) else Lib.idxFromS (scn.drop (k + 1)) s (k + 1) := by
  have h : scn.drop k = scn.getD k ByteArray.empty :: scn.drop (k + 1) := by
    rw [List.drop_eq_getElem_cons (show k < scn.length from hk), List.getD_eq_getElem?_getD, List.getElem?_eq_getElem (show k < scn.length from hk)]
    rfl
  rw [h, Lib.idxFromS]
set_option maxHeartbeats 2000000 in
theorem of_ref (s : ByteArray) (w : World) : Calls Try.prog 33 #[.string s] w fun e w' =>
    e = .returned (.tuple #[.int .u8 (Lib.idxOfS scn s + 1), .bool (decide (0 ≤ Lib.idxOfS scn s))]) ∧ w = w' := by
  obtain ⟨R, hR⟩ : ∃ R, Lib.idxOfS scn s = R := ⟨_, rfl⟩
  have hR2 : Lib.idxFromS (scn.drop 0) s 0 = R := by rw [← hR]; rfl
  rw [hR]
  have HR := Lib.hid hR2
  clear hR hR2
  go_enter Try.func33, Try.ntmps33
  go_wp2_with fail
  go_loopw [4] (fun i wr => ∃ k : Nat, k ≤ 8 ∧ i = .int .u8 ((k : Int) + 1) ∧ w = wr ∧ Lib.idxFromS (scn.drop k) s k = R) (fun i _ => 9 - (RowKit.intOf i).toNat)
  case atStart => exact ⟨0, by omega, rfl, rfl, HR.out⟩
  case round =>
    obtain ⟨k, hk, rfl, rfl, hrel⟩ := hrel
    have HI := Lib.hid hrel
    clear hrel HR
    by_cases hlt : k < 8
    · have hn := fun W => named_ref k hlt W
      have hd := idx_drop s k hlt
      generalize scn.getD k ByteArray.empty = z at *
      by_cases hz : z = s
      · rw [if_pos hz] at hd
        have HD := Lib.hid hd
        have hz' : (z.toList == s.toList) = true := by rw [ba_beq]; simpa using hz
        clear hd hz
        go_wp2_with fail
        refine (hn _).mono ?_
        rintro e w' ⟨rfl, rfl⟩
        go_wp2_with fail
        go_ret2
        refine ⟨?_, rfl⟩
        rw [← HI.out, HD.out, decide_eq_true (show (0 : Int) ≤ (k : Int) by omega)]
        rfl
      · rw [if_neg hz] at hd
        have HD := Lib.hid hd
        have hz' : (z.toList == s.toList) = false := by rw [ba_beq]; simpa using hz
        clear hd hz
        go_wp2_with fail
        refine (hn _).mono ?_
        rintro e w' ⟨rfl, rfl⟩
        go_wp2_with fail
        go_roundw
        case rel => exact ⟨k + 1, by omega, by go_num, by trivial, by rw [← HD.out]; exact HI.out⟩
        case measure => simp [RowKit.intOf]; omega
    · obtain rfl : k = 8 := by omega
      go_wp2_with fail
      go_ret2
      refine ⟨?_, rfl⟩
      rw [← HI.out]
      rfl
set_option maxHeartbeats 4000000 in
theorem class_ref (A : Option Addr) (c : Nat) (ds : List (UInt8 × ByteArray)) (s : ByteArray) (w : World) {B : Nat} (hx : DRd w B A ds) (hn : ds.length ≤ 1000) : Calls Try.prog 20 #[.slice A ds.length c, .string s] w fun e w' =>
    e = .returned (.tuple #[.int .u8 (clsV ds s).1, .int .i64 (clsV ds s).2]) ∧ w = w' := by
  have hof := fun W => of_ref s W
  obtain ⟨b1, b2⟩ := idx_bound s
  have hV : clsV ds s = if 0 ≤ Lib.idxOfS scn s then (1, Lib.idxOfS scn s + 1) else (((clsD ds s 0).1 : Int), ((clsD ds s 0).2 : Int)) := rfl
  generalize Lib.idxOfS scn s = r at *
  obtain ⟨V, hV2⟩ : ∃ V, clsV ds s = V := ⟨_, rfl⟩
  rw [hV2] at hV ⊢
  clear hV2
  by_cases hr : 0 ≤ r
  · have hd : decide (0 ≤ r) = true := by simpa using hr
    rw [hd] at hof
    rw [if_pos hr] at hV
    subst hV
    go_enter Try.func20, Try.ntmps20
    go_wp2_with fail
    refine (hof _).mono ?_
    rintro e w1 ⟨rfl, rfl⟩
    go_wp2_with fail
    go_ret2
    exact ⟨rfl, rfl⟩
  · have hd : decide (0 ≤ r) = false := by simpa using hr
    rw [hd] at hof
    rw [if_neg hr] at hV
    have HV := Lib.hid hV
    have HX := Lib.hid hx
    clear hV hx
    go_enter Try.func20, Try.ntmps20
    go_wp2_with fail
    refine (hof _).mono ?_
    rintro e w1 ⟨rfl, rfl⟩
    clear hof
    go_wp2_with fail
    go_loopw [8] (fun i wr => ∃ k : Nat, k ≤ ds.length ∧ i = .int .i64 k ∧ w = wr ∧ clsD ds s 0 = clsD (ds.drop k) s k) (fun i _ => ds.length - (RowKit.intOf i).toNat)
    case atStart => exact ⟨0, Nat.zero_le _, rfl, rfl, by rw [List.drop_zero]⟩
    case round =>
      obtain ⟨k, hk, rfl, rfl, hcl⟩ := hrel
      have HC := Lib.hid hcl
      clear hcl
      by_cases hlt : k < ds.length
      · obtain ⟨b, off, rfl, hb, hcell⟩ : ∃ b off, A = some ⟨b, off, none⟩ ∧ b < B ∧ (w.cell? ⟨b, off + k * 6, none⟩ = some (.int .u8 ds[k].1.toNat) ∧ w.cell? ⟨b, off + k * 6 + 1, none⟩ = some (.string ds[k].2)) := by
          rcases HX.out with h | ⟨b, off, e, h1, h2⟩
          · subst h; simp at hlt
          · exact ⟨b, off, e, h1, (h2 k hlt).1, (h2 k hlt).2.1⟩
        obtain ⟨h0, h1⟩ := hcell
        have hdrop : clsD (ds.drop k) s k = if hitD ds[k] s = true then (ds[k].1.toNat + 1, k) else clsD (ds.drop (k + 1)) s (k + 1) := by
          rw [List.drop_eq_getElem_cons hlt, clsD]
        have hkd : hitD ds[k] s = (decide (1 ≤ ds[k].1.toNat ∧ ds[k].1.toNat ≤ 3) && decide (ds[k].2 = s)) := rfl
        rw [hkd] at hdrop
        clear hkd
        have hk256 := ds[k].1.toNat_lt
        generalize ds[k].2 = z at *
        generalize ds[k].1.toNat = q at *
        by_cases hz : z = s
        · have hz' : (z.toList == s.toList) = true := by rw [ba_beq]; simpa using hz
          by_cases hq : 1 ≤ q ∧ q ≤ 3
          · rw [if_pos (by simp [hq, hz])] at hdrop
            have HD := Lib.hid hdrop
            obtain ⟨q1, q2⟩ := hq
            clear hdrop hz
            go_wp2_with fail
            go_ret2
            refine ⟨?_, rfl⟩
            rw [HV.out, HC.out, HD.out]
            rfl
          · rw [if_neg (by simp; omega)] at hdrop
            have HD := Lib.hid hdrop
            clear hdrop hz
            have hqq : q = 0 ∨ 3 < q := by omega
            clear hq
            rcases hqq with hq | hq
            · have hq' : ¬ (1 : Int) ≤ (q : Int) := by omega
              clear hq
              go_wp2_with fail
              go_roundw
              case rel => exact ⟨k + 1, by omega, by go_num, by trivial, by rw [HC.out, HD.out]⟩
              case measure => simp [RowKit.intOf]; omega
            · have hq1 : (1 : Int) ≤ (q : Int) := by omega
              have hq' : ¬ (q : Int) ≤ 3 := by omega
              clear hq
              go_wp2_with fail
              go_roundw
              case rel => exact ⟨k + 1, by omega, by go_num, by trivial, by rw [HC.out, HD.out]⟩
              case measure => simp [RowKit.intOf]; omega
        · have hz' : (z.toList == s.toList) = false := by rw [ba_beq]; simpa using hz
          rw [if_neg (by simp [hz])] at hdrop
          have HD := Lib.hid hdrop
          clear hdrop hz
          go_wp2_with fail
          go_roundw
          case rel => exact ⟨k + 1, by omega, by go_num, by trivial, by rw [HC.out, HD.out]⟩
          case measure => simp [RowKit.intOf]; omega
      · obtain rfl : k = ds.length := by omega
        go_wp2_with fail
        go_ret2
        refine ⟨?_, rfl⟩
        rw [HV.out, HC.out, List.drop_length]
        rfl
/-- is the first wrapper this? -/
def wr1 (ws : List UInt8) (x : UInt8) : Bool := decide (ws.head? = some x)
set_option maxHeartbeats 1000000 in
theorem wrapped_ref (nm : ByteArray) (A : Option Addr) (c : Nat) (ws : List UInt8) (x : UInt8) (w : World) {B : Nat} (hx : Rd w B A (bv ws)) (hB : B ≤ w.heap.size) : Calls Try.prog 34 #[.agg #[.string nm, .slice A ws.length c], .int .u8 x.toNat] w fun e w' =>
    e = .returned (.bool (wr1 ws x)) ∧ Below w.heap.size w w' := by
  rcases ws with _ | ⟨a, r⟩
  · go_enter Try.func34, Try.ntmps34
    go_wp2
    go_ret
    exact ⟨rfl, bAl2 _ _⟩
  · obtain ⟨b, off, rfl, hb, hcell⟩ := hx.byte (k := 0) (by simp)
    have c1 := hcell 0 (by simp)
    simp at c1
    have c2 : ∀ o, (w.alloc o).cell? ⟨b, off, none⟩ = some (.int .u8 a.toNat) := fun o => by rw [World.cell?_alloc_past _ _ _ (show b < w.heap.size by omega)]; exact c1
    have hv : wr1 (a :: r) x = decide (a = x) := by unfold wr1; simp
    rw [hv]
    have HV := Lib.hid (show a = x ↔ a.toNat = x.toNat from UInt8.toNat_inj.symm)
    clear hcell c1 hx hv
    simp only [List.length_cons]
    go_enter Try.func34, Try.ntmps34
    go_wp2
    go_ret
    refine ⟨ret_bool ?_, bAl2 _ _⟩
    rw [Bool.eq_iff_iff]
    simp [HV.out]
    try omega
set_option maxHeartbeats 1000000 in
theorem non_ref (nm : ByteArray) (A : Option Addr) (c : Nat) (ws : List UInt8) (w : World) {B : Nat} (hx : Rd w B A (bv ws)) (hB : B ≤ w.heap.size) : Calls Try.prog 36 #[.agg #[.string nm, .slice A ws.length c]] w fun e w' =>
    e = .returned (.bool (wr1 ws 1)) ∧ Below w.heap.size w w' := by
  have hc := wrapped_ref nm A c ws 1 (w.alloc (.cells #[.string nm, .slice A ws.length c] 24)) (Rd.via (bAl2 w _) hx hB) (by simp; omega)
  rw [show (((1 : UInt8).toNat : Nat) : Int) = 1 from rfl] at hc
  generalize wr1 ws 1 = V at *
  have HC := Lib.hid hc
  clear hc hx
  go_enter Try.func36, Try.ntmps36
  go_wp2_with fail
  refine HC.out.mono ?_
  rintro e w1 ⟨rfl, hb⟩
  go_wp2_with fail
  go_ret
  exact ⟨rfl, bt2 (bAl2 _ _) (bAl2 _ _).size hb⟩
def InPost (nm : ByteArray) (r : List UInt8) (w : World) (B : Nat) (e : Ending) (w' : World) : Prop :=
  ∃ A' c', e = .returned (.agg #[.string nm, .slice A' r.length c']) ∧ r.length ≤ c' ∧ c' ≤ maxLen ∧ Rd w' B A' (bv r) ∧ Below w.heap.size w w'
end Go.Proofs.Ytgoecnhkmfnenaa
