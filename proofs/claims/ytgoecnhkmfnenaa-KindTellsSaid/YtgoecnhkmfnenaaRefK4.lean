/- The reference's Fits: in the program's own terms. Conditions: lengths within the model's. -/
import Derived.Test.YtgoecnhkmfnenaaRefK3
import Derived.Test.YtgoecnhkmfnenaaWraps
import Derived.Deep.QuietTactic
import Derived.Deep.RegionWith
import Derived.BigQuiet
namespace Go.Proofs.Ytgoecnhkmfnenaa
open Go.RowKit
theorem Rd.back {w w' : World} {B B' : Nat} {A : Option Addr} {xs : List Value} (h : Rd w' B A xs) (hb : Below B' w w') (hB : B ≤ B') : Rd w B A xs :=
  h.keep (Nat.le_refl _) fun _ hp => (hb.cell (by omega)).symm
section
variable {W0 : World} {B : Nat}
theorem nonB (nm : ByteArray) (A : Option Addr) (c : Nat) (ws : List UInt8) (hx : Rd W0 B A (bv ws)) (hB : B ≤ W0.heap.size) : ∀ W, Below W0.heap.size W0 W → Calls Try.prog 36 #[.agg #[.string nm, .slice A ws.length c]] W fun e w' => e = .returned (.bool (wr1 ws 1)) ∧ Below W0.heap.size W0 w' :=
  fun W h => (non_ref nm A c ws W (Rd.via h hx hB) (Nat.le_trans hB h.size)).mono fun _ _ q => ⟨q.1, bt2 h h.size q.2⟩
theorem wrapB (nm : ByteArray) (A : Option Addr) (c : Nat) (ws : List UInt8) (hx : Rd W0 B A (bv ws)) (hB : B ≤ W0.heap.size) : ∀ W, Below W0.heap.size W0 W → Calls Try.prog 34 #[.agg #[.string nm, .slice A ws.length c], .int .u8 2] W fun e w' => e = .returned (.bool (wr1 ws 2)) ∧ Below W0.heap.size W0 w' :=
  fun W h => (wrapped_ref nm A c ws 2 W (Rd.via h hx hB) (Nat.le_trans hB h.size)).mono fun _ _ q => ⟨q.1, bt2 h h.size q.2⟩
def InB (W0 : World) (B : Nat) (nm : ByteArray) (r : List UInt8) (e : Ending) (w' : World) : Prop :=
  ∃ A' c', e = .returned (.agg #[.string nm, .slice A' r.length c']) ∧ r.length ≤ c' ∧ c' ≤ maxLen ∧ Rd W0 B A' (bv r) ∧ Below W0.heap.size W0 w'
theorem inB (nm : ByteArray) (A : Option Addr) (c : Nat) (a : UInt8) (r : List UInt8) (hx : Rd W0 B A (bv (a :: r))) (hB : B ≤ W0.heap.size) (hc : r.length + 1 ≤ c) (hm : c ≤ maxLen) : ∀ W, Below W0.heap.size W0 W → Calls Try.prog 35 #[.agg #[.string nm, .slice A (r.length + 1) c]] W (InB W0 B nm r) :=
  fun W h => (in_ref nm A c a r W (Rd.via h hx hB) (Nat.le_trans hB h.size) hc hm).mono fun _ w' ⟨A', c', q1, q2, q3, q4, q5⟩ => ⟨A', c', q1, q2, q3, q4.back (bt2 h h.size q5) hB, bt2 h h.size q5⟩
end
theorem bDr2 {B : Nat} {a w : World} (h : Below B a w) (n : Nat) : Below B a (w.drewN n) := h.drewN' n
def FitsC (na nb : ByteArray) (fa : List UInt8) : Prop := ∀ (tb : List UInt8) (A A2 : Option Addr) (c c2 : Nat) (w : World) (B : Nat) (_ : Rd w B A (bv fa)) (_ : Rd w B A2 (bv tb)) (_ : B ≤ w.heap.size) (_ : fa.length ≤ c) (_ : c ≤ maxLen) (_ : tb.length ≤ c2) (_ : c2 ≤ maxLen),
    Calls Try.prog 23 #[.agg #[.string na, .slice A fa.length c], .agg #[.string nb, .slice A2 tb.length c2]] w fun e w' => e = .returned (.bool (fits na nb fa tb)) ∧ Below w.heap.size w w'
theorem fitsB {W0 : World} {B : Nat} {na nb : ByteArray} {fa : List UInt8} (ih : FitsC na nb fa) (hB : B ≤ W0.heap.size) : ∀ (tb : List UInt8) (A A2 : Option Addr) (c c2 : Nat) (_ : Rd W0 B A (bv fa)) (_ : Rd W0 B A2 (bv tb)) (_ : fa.length ≤ c) (_ : c ≤ maxLen) (_ : tb.length ≤ c2) (_ : c2 ≤ maxLen), ∀ W, Below W0.heap.size W0 W →
    Calls Try.prog 23 #[.agg #[.string na, .slice A fa.length c], .agg #[.string nb, .slice A2 tb.length c2]] W fun e w' => e = .returned (.bool (fits na nb fa tb)) ∧ Below W0.heap.size W0 w' :=
  fun tb A A2 c c2 hx hy h1 h2 h3 h4 W h => (ih tb A A2 c c2 W B (Rd.via h hx hB) (Rd.via h hy hB) (Nat.le_trans hB h.size) h1 h2 h3 h4).mono fun _ _ q => ⟨q.1, bt2 h h.size q.2⟩
theorem hd_ne {ws : List UInt8} {x : UInt8} (h : wr1 ws x = false) : ws.head? ≠ some x := of_decide_eq_false h
theorem hd_eq {ws : List UInt8} {x : UInt8} (h : wr1 ws x = true) : ∃ r, ws = x :: r := by
  unfold wr1 at h
  rw [decide_eq_true_iff] at h
  rcases ws with _ | ⟨a, r⟩
  · simp at h
  · simp at h; exact ⟨r, by rw [h]⟩
/-- the two boxes -/
theorem S4.at {w W0 : World} {x0 x1 y0 y1 : Value} (h : S4 w.heap.size x0 x1 y0 y1 W0) (hz : w.heap.size + 1 < W0.heap.size) : ∀ W, Below W0.heap.size W0 W → W.cell? ⟨w.heap.size, 0, none⟩ = some x0 ∧ W.cell? ⟨w.heap.size, 1, none⟩ = some x1 ∧ W.cell? ⟨w.heap.size + 1, 0, none⟩ = some y0 ∧ W.cell? ⟨w.heap.size + 1, 1, none⟩ = some y1 :=
  fun _ hb => S4.keep hb h hz
set_option maxHeartbeats 8000000 in
set_option maxRecDepth 100000 in
theorem fits_step (na nb : ByteArray) (fa tb : List UInt8) (n m : Nat) (hfn : fa.length = n) (htm : tb.length = m) (A A2 : Option Addr) (c c2 : Nat) (w : World) (B : Nat) (hx : Rd w B A (bv fa)) (hy : Rd w B A2 (bv tb)) (hB : B ≤ w.heap.size) (hc : n ≤ c) (hm : c ≤ maxLen) (hc2 : m ≤ c2) (hm2 : c2 ≤ maxLen)
    (ih : ∀ a r, fa = a :: r → FitsC na nb r) :
    Calls Try.prog 23 #[.agg #[.string na, .slice A n c], .agg #[.string nb, .slice A2 m c2]] w fun e w' => e = .returned (.bool (fits na nb fa tb)) ∧ Below w.heap.size w w' := by
  obtain ⟨W0, hW0⟩ : ∃ W0, ((w.alloc (.cells #[.string na, .slice A n c] 24)).alloc (.cells #[.string nb, .slice A2 m c2] 24)) = W0 := ⟨_, rfl⟩
  have hb0 : Below w.heap.size w W0 := by rw [← hW0]; exact ((Below.refl _ _).alloc (Nat.le_refl _) _).alloc (by simp) _
  have hS0 : S4 w.heap.size (.string na) (.slice A n c) (.string nb) (.slice A2 m c2) W0 := by rw [← hW0]; exact S4.new w (.string na) (.slice A n c) (.string nb) (.slice A2 m c2) 24
  have hz : w.heap.size + 1 < W0.heap.size := by rw [← hW0]; simp
  have hx0 := hx.thru hb0 hB
  have hy0 := hy.thru hb0 hB
  have hB0 := Nat.le_trans hB hb0.size
  have hS := hS0.at hz
  have n1 := nonB nb A2 c2 tb hy0 hB0
  have n2 := nonB na A c fa hx0 hB0
  have w1 := wrapB nb A2 c2 tb hy0 hB0
  have w2 := wrapB na A c fa hx0 hB0
  rw [htm] at n1 w1
  rw [hfn] at n2 w2
  have hinX : ∀ a r, fa = a :: r → ∀ W, Below W0.heap.size W0 W → Calls Try.prog 35 #[.agg #[.string na, .slice A n c]] W (InB W0 B na r) := by
    rintro a r rfl
    have := inB na A c a r hx0 hB0 (by simp at hfn; omega) hm
    rw [← hfn]
    exact this
  have hinY : ∀ a r, tb = a :: r → ∀ W, Below W0.heap.size W0 W → Calls Try.prog 35 #[.agg #[.string nb, .slice A2 m c2]] W (InB W0 B nb r) := by
    rintro a r rfl
    have := inB nb A2 c2 a r hy0 hB0 (by simp at htm; omega) hm2
    rw [← htm]
    exact this
  have hfin : ∀ W, Below W0.heap.size W0 W → Below w.heap.size w W := fun W h => bt2 hb0 hb0.size h
  have HS := Lib.hid hS
  have HF := Lib.hid hfin
  have HY0 := Lib.hid hy0
  obtain ⟨V, hV⟩ : ∃ V, fits na nb fa tb = V := ⟨_, rfl⟩
  rw [hV]
  have HV := Lib.hid hV
  clear hS0 hS hfin hV hb0 hx hy hx0 hy0
  cases h1 : wr1 tb 1
  · rw [h1] at n1
    cases h2 : wr1 fa 1
    · rw [h2] at n2
      cases h3 : wr1 tb 2
      · rw [h3] at w1
        have hVv : V = (decide (n = 0) && decide (m = 0) && decide (na = nb)) := by
          rw [← HV.out, ← hfn, ← htm]
          rcases fa with _ | ⟨a, r⟩
          · rcases tb with _ | ⟨b, t⟩
            · simp [fits]
            · simp [fits]
          · have q1 := hd_ne h1
            have q2 := hd_ne h2
            have q3 := hd_ne h3
            simp at q2
            simp [fits, q1, q2, q3]
        clear h1 h2 h3 w2 ih HV hinX hinY hfn htm
        by_cases hn0 : n = 0
        · by_cases hm0 : m = 0
          · subst hn0 hm0
            have hVe : V = decide (na = nb) := by rw [hVv]; simp
            have HE := Lib.hid hVe
            clear hVv hVe
            have K0 := HS.out _ (Below.refl _ _)
            obtain ⟨k0, k1, k2, k3⟩ := K0
            go_enter Try.func23, Try.ntmps23
            go_wp2_with fail
            clear hW0 k0 k1 k2 k3
            refine (n1 _ (Below.refl _ _)).mono ?_
            rintro e v1 ⟨rfl, hb1⟩
            obtain ⟨k0, k1, k2, k3⟩ := HS.out _ hb1
            go_wp2_with fail
            clear k0 k1 k2 k3
            refine (n2 _ hb1).mono ?_
            rintro e v2 ⟨rfl, hb2⟩
            obtain ⟨k0, k1, k2, k3⟩ := HS.out _ hb2
            go_wp2_with fail
            clear k0 k1 k2 k3
            refine (w1 _ hb2).mono ?_
            rintro e v3 ⟨rfl, hb3⟩
            obtain ⟨k0, k1, k2, k3⟩ := HS.out _ hb3
            go_wp2_with fail
            go_ret
            exact ⟨ret_bool (by rw [HE.out, ba_beq]), HF.out _ hb3⟩
          · have hm0' : ((m : Int) == 0) = false := by rw [beq_eq_false_iff_ne]; omega
            subst hn0
            obtain rfl : V = false := by rw [hVv]; simp [hm0]
            clear hVv hm0
            have K0 := HS.out _ (Below.refl _ _)
            obtain ⟨k0, k1, k2, k3⟩ := K0
            go_enter Try.func23, Try.ntmps23
            go_wp2_with fail
            clear hW0 k0 k1 k2 k3
            refine (n1 _ (Below.refl _ _)).mono ?_
            rintro e v1 ⟨rfl, hb1⟩
            obtain ⟨k0, k1, k2, k3⟩ := HS.out _ hb1
            go_wp2_with fail
            clear k0 k1 k2 k3
            refine (n2 _ hb1).mono ?_
            rintro e v2 ⟨rfl, hb2⟩
            obtain ⟨k0, k1, k2, k3⟩ := HS.out _ hb2
            go_wp2_with fail
            clear k0 k1 k2 k3
            refine (w1 _ hb2).mono ?_
            rintro e v3 ⟨rfl, hb3⟩
            obtain ⟨k0, k1, k2, k3⟩ := HS.out _ hb3
            go_wp2_with fail
            go_ret
            exact ⟨rfl, HF.out _ hb3⟩
        · have hn0' : ((n : Int) == 0) = false := by rw [beq_eq_false_iff_ne]; omega
          obtain rfl : V = false := by rw [hVv]; simp [hn0]
          clear hVv hn0
          have K0 := HS.out _ (Below.refl _ _)
          obtain ⟨k0, k1, k2, k3⟩ := K0
          go_enter Try.func23, Try.ntmps23
          go_wp2_with fail
          clear hW0 k0 k1 k2 k3
          refine (n1 _ (Below.refl _ _)).mono ?_
          rintro e v1 ⟨rfl, hb1⟩
          obtain ⟨k0, k1, k2, k3⟩ := HS.out _ hb1
          go_wp2_with fail
          clear k0 k1 k2 k3
          refine (n2 _ hb1).mono ?_
          rintro e v2 ⟨rfl, hb2⟩
          obtain ⟨k0, k1, k2, k3⟩ := HS.out _ hb2
          go_wp2_with fail
          clear k0 k1 k2 k3
          refine (w1 _ hb2).mono ?_
          rintro e v3 ⟨rfl, hb3⟩
          obtain ⟨k0, k1, k2, k3⟩ := HS.out _ hb3
          go_wp2_with fail
          go_ret
          exact ⟨rfl, HF.out _ hb3⟩
      · rw [h3] at w1
        obtain ⟨t, rfl⟩ := hd_eq h3
        cases h4 : wr1 fa 2
        · rw [h4] at w2
          have hVf : V = false := by
            rw [← HV.out]
            rcases fa with _ | ⟨a, r⟩
            · rfl
            · have q1 := hd_ne h2
              have q2 := hd_ne h4
              simp at q1 q2
              simp [fits, q1, q2]
          subst hVf
          clear h1 h2 h3 h4 ih HV hinX hinY hfn htm
          have K0 := HS.out _ (Below.refl _ _)
          obtain ⟨k0, k1, k2, k3⟩ := K0
          go_enter Try.func23, Try.ntmps23
          go_wp2_with fail
          clear hW0 k0 k1 k2 k3
          refine (n1 _ (Below.refl _ _)).mono ?_
          rintro e v1 ⟨rfl, hb1⟩
          obtain ⟨k0, k1, k2, k3⟩ := HS.out _ hb1
          go_wp2_with fail
          clear k0 k1 k2 k3
          refine (n2 _ hb1).mono ?_
          rintro e v2 ⟨rfl, hb2⟩
          obtain ⟨k0, k1, k2, k3⟩ := HS.out _ hb2
          go_wp2_with fail
          clear k0 k1 k2 k3
          refine (w1 _ hb2).mono ?_
          rintro e v3 ⟨rfl, hb3⟩
          obtain ⟨k0, k1, k2, k3⟩ := HS.out _ hb3
          go_wp2_with fail
          first | go_region_with (first
              | (go_at_call 34; (with_reducible refine (w2 _ ?_).mono ?_); (repeat (first | assumption | exact Below.refl _ _ | refine Below.drew ?_)); rintro e v4 ⟨rfl, hb4⟩)) | fail
          all_goals
            go_wp2_with fail
            go_ret
            exact ⟨rfl, HF.out _ (by assumption)⟩
        · rw [h4] at w2
          obtain ⟨r, rfl⟩ := hd_eq h4
          have hVf : V = fits na nb r t := by rw [← HV.out, fits_two]
          have hin1 := hinX 2 r rfl
          have hin2 := hinY 2 t rfl
          have hft := fitsB (ih 2 r rfl) hB0 t
          rw [← hVf] at hft
          clear h1 h2 h3 h4 ih HV hinX hinY hfn htm hVf
          have K0 := HS.out _ (Below.refl _ _)
          obtain ⟨k0, k1, k2, k3⟩ := K0
          go_enter Try.func23, Try.ntmps23
          go_wp2_with fail
          clear hW0 k0 k1 k2 k3
          refine (n1 _ (Below.refl _ _)).mono ?_
          rintro e v1 ⟨rfl, hb1⟩
          obtain ⟨k0, k1, k2, k3⟩ := HS.out _ hb1
          go_wp2_with fail
          clear k0 k1 k2 k3
          refine (n2 _ hb1).mono ?_
          rintro e v2 ⟨rfl, hb2⟩
          obtain ⟨k0, k1, k2, k3⟩ := HS.out _ hb2
          go_wp2_with fail
          clear k0 k1 k2 k3
          refine (w1 _ hb2).mono ?_
          rintro e v3 ⟨rfl, hb3⟩
          obtain ⟨k0, k1, k2, k3⟩ := HS.out _ hb3
          go_wp2_with fail
          first | go_region_held3 (fun W => W.cell? ⟨w.heap.size, 0, none⟩ = some (.string na) ∧ W.cell? ⟨w.heap.size, 1, none⟩ = some (.slice A n c) ∧ W.cell? ⟨w.heap.size + 1, 0, none⟩ = some (.string nb) ∧ W.cell? ⟨w.heap.size + 1, 1, none⟩ = some (.slice A2 m c2))
            (exact HS.out _ (by repeat (first | assumption | exact Below.refl _ _ | refine Below.drew ?_)))
            (first
              | (go_at_call 34; (with_reducible refine (w2 _ ?_).mono ?_); (repeat (first | assumption | exact Below.refl _ _ | refine Below.drew ?_)); rintro e v4 ⟨rfl, hb4⟩)
              | (go_at_call 35; (with_reducible refine (hin1 _ ?_).mono ?_); (repeat (first | assumption | exact Below.refl _ _ | refine Below.drew ?_)); rintro e v5 ⟨A5, c5, rfl, q1, q2, q3, hb5⟩)
              | (go_at_call 35; (with_reducible refine (hin2 _ ?_).mono ?_); (repeat (first | assumption | exact Below.refl _ _ | refine Below.drew ?_)); rintro e v6 ⟨A6, c6, rfl, p1, p2, p3, hb6⟩)
              | (go_at_call 23; (with_reducible refine (hft A5 A6 c5 c6 q3 p3 q1 q2 p1 p2 _ ?_).mono ?_); (repeat (first | assumption | exact Below.refl _ _ | refine Below.drew ?_)); rintro e v7 ⟨rfl, hb7⟩)) | fail
          all_goals
            go_wp2_with fail
            go_ret
            exact ⟨rfl, HF.out _ (by assumption)⟩
    · rw [h2] at n2
      obtain ⟨r, rfl⟩ := hd_eq h2
      have hVf : V = fits na nb r tb := by
        rw [← HV.out]
        have q1 := hd_ne h1
        simp [fits, q1]
      have hin1 := hinX 1 r rfl
      have hft := fun A' c' a b d => fitsB (ih 1 r rfl) hB0 tb A' A2 c' c2 a HY0.out b d (by omega) hm2
      rw [← hVf, htm] at hft
      clear h1 h2 ih HV hinX hinY hfn htm hVf w1 w2
      have K0 := HS.out _ (Below.refl _ _)
      obtain ⟨k0, k1, k2, k3⟩ := K0
      go_enter Try.func23, Try.ntmps23
      go_wp2_with fail
      clear hW0 k0 k1 k2 k3
      refine (n1 _ (Below.refl _ _)).mono ?_
      rintro e v1 ⟨rfl, hb1⟩
      obtain ⟨k0, k1, k2, k3⟩ := HS.out _ hb1
      go_wp2_with fail
      clear k0 k1 k2 k3
      refine (n2 _ hb1).mono ?_
      rintro e v2 ⟨rfl, hb2⟩
      obtain ⟨k0, k1, k2, k3⟩ := HS.out _ hb2
      go_wp2_with fail
      first | go_region_held3 (fun W => W.cell? ⟨w.heap.size, 0, none⟩ = some (.string na) ∧ W.cell? ⟨w.heap.size, 1, none⟩ = some (.slice A n c) ∧ W.cell? ⟨w.heap.size + 1, 0, none⟩ = some (.string nb) ∧ W.cell? ⟨w.heap.size + 1, 1, none⟩ = some (.slice A2 m c2))
        (exact HS.out _ (by repeat (first | assumption | exact Below.refl _ _ | refine Below.drew ?_)))
        (first
          | (go_at_call 35; (with_reducible refine (hin1 _ ?_).mono ?_); (repeat (first | assumption | exact Below.refl _ _ | refine Below.drew ?_)); rintro e v5 ⟨A5, c5, rfl, q1, q2, q3, hb5⟩)
          | (go_at_call 23; (with_reducible refine (hft A5 c5 q3 q1 q2 _ ?_).mono ?_); (repeat (first | assumption | exact Below.refl _ _ | refine Below.drew ?_)); rintro e v7 ⟨rfl, hb7⟩)) | fail
      all_goals
        go_wp2_with fail
        go_ret
        exact ⟨rfl, HF.out _ (by assumption)⟩
  · rw [h1] at n1
    obtain ⟨t, rfl⟩ := hd_eq h1
    cases h2 : wr1 fa 1
    · rw [h2] at n2
      have hVf : V = false := by
        rw [← HV.out]
        rcases fa with _ | ⟨a, r⟩
        · rfl
        · have := hd_ne h2
          simp at this
          simp [fits, this]
      subst hVf
      clear h1 h2 w1 w2 ih HV hinX hinY hfn htm
      have K0 := HS.out _ (Below.refl _ _)
      obtain ⟨k0, k1, k2, k3⟩ := K0
      go_enter Try.func23, Try.ntmps23
      go_wp2_with fail
      clear hW0 k0 k1 k2 k3
      refine (n1 _ (Below.refl _ _)).mono ?_
      rintro e v1 ⟨rfl, hb1⟩
      obtain ⟨k0, k1, k2, k3⟩ := HS.out _ hb1
      go_wp2_with fail
      first | go_region_with (first
          | (go_at_call 36; (with_reducible refine (n2 _ ?_).mono ?_); (repeat (first | assumption | exact Below.refl _ _ | refine Below.drew ?_)); rintro e v2 ⟨rfl, hb2⟩)) | fail
      all_goals
        go_wp2_with fail
        go_ret
        exact ⟨rfl, HF.out _ (by assumption)⟩
    · rw [h2] at n2
      obtain ⟨r, rfl⟩ := hd_eq h2
      have hVf : V = fits na nb r t := by rw [← HV.out, fits_one]
      have hin1 := hinX 1 r rfl
      have hin2 := hinY 1 t rfl
      have hft := fitsB (ih 1 r rfl) hB0 t
      rw [← hVf] at hft
      clear h1 h2 ih HV hinX hinY hfn htm hVf w1 w2
      have K0 := HS.out _ (Below.refl _ _)
      obtain ⟨k0, k1, k2, k3⟩ := K0
      go_enter Try.func23, Try.ntmps23
      go_wp2_with fail
      clear hW0 k0 k1 k2 k3
      refine (n1 _ (Below.refl _ _)).mono ?_
      rintro e v1 ⟨rfl, hb1⟩
      obtain ⟨k0, k1, k2, k3⟩ := HS.out _ hb1
      go_wp2_with fail
      first | go_region_held3 (fun W => W.cell? ⟨w.heap.size, 0, none⟩ = some (.string na) ∧ W.cell? ⟨w.heap.size, 1, none⟩ = some (.slice A n c) ∧ W.cell? ⟨w.heap.size + 1, 0, none⟩ = some (.string nb) ∧ W.cell? ⟨w.heap.size + 1, 1, none⟩ = some (.slice A2 m c2))
        (exact HS.out _ (by repeat (first | assumption | exact Below.refl _ _ | refine Below.drew ?_)))
        (first
          | (go_at_call 36; (with_reducible refine (n2 _ ?_).mono ?_); (repeat (first | assumption | exact Below.refl _ _ | refine Below.drew ?_)); rintro e v4 ⟨rfl, hb4⟩)
          | (go_at_call 35; (with_reducible refine (hin1 _ ?_).mono ?_); (repeat (first | assumption | exact Below.refl _ _ | refine Below.drew ?_)); rintro e v5 ⟨A5, c5, rfl, q1, q2, q3, hb5⟩)
          | (go_at_call 35; (with_reducible refine (hin2 _ ?_).mono ?_); (repeat (first | assumption | exact Below.refl _ _ | refine Below.drew ?_)); rintro e v6 ⟨A6, c6, rfl, p1, p2, p3, hb6⟩)
          | (go_at_call 23; (with_reducible refine (hft A5 A6 c5 c6 q3 p3 q1 q2 p1 p2 _ ?_).mono ?_); (repeat (first | assumption | exact Below.refl _ _ | refine Below.drew ?_)); rintro e v7 ⟨rfl, hb7⟩)) | fail
      all_goals
        go_wp2_with fail
        go_ret
        exact ⟨rfl, HF.out _ (by assumption)⟩
theorem fits_ref (na nb : ByteArray) (fa : List UInt8) : FitsC na nb fa := by
  induction fa with
  | nil => exact fun tb A A2 c c2 w B hx hy hB hc hm hc2 hm2 => fits_step na nb [] tb _ _ rfl rfl A A2 c c2 w B hx hy hB hc hm hc2 hm2 (fun _ _ h => by cases h)
  | cons a r ih => exact fun tb A A2 c c2 w B hx hy hB hc hm hc2 hm2 => fits_step na nb (a :: r) tb _ _ rfl rfl A A2 c c2 w B hx hy hB hc hm hc2 hm2 (fun _ _ h => by cases h; exact ih)
end Go.Proofs.Ytgoecnhkmfnenaa
