/- provostref06.places: 0 and all numbers at which sets may turn. Conditions: at most 20 sets of at most 20 ranges that may be. -/
import Derived.Test.YtlndfkanbibhhaaRngWith
namespace Go.Proofs.Ytlndfkanbibhhaa
open Go.RowKit
/-- what of a walk's world is kept by what makes memory -/
theorem Sets.get {w : World} {B : Nat} {A : Option Addr} {xss : List (List Rg)} (h : Sets w B A xss) {k : Nat} (hk : k < xss.length) :
    ∃ b off A' c, A = some ⟨b, off, none⟩ ∧ b < B ∧ Rd w B A' (fl xss[k]) ∧ ∀ B' W, B ≤ B' → Below B' w W → W.cell? ⟨b, off + k, none⟩ = some (.slice A' xss[k].length c) := by
  obtain ⟨b, off, A', c, e, hb, h1, h2⟩ := h.at' hk
  exact ⟨b, off, A', c, e, hb, h2, fun B' W hB q => (q.cell (p := ⟨b, off + k, none⟩) (by show b < B'; omega)).trans h1⟩
theorem Rd.get2 {w : World} {B : Nat} {A : Option Addr} {xs : List Rg} (h : Rd w B A (fl xs)) {k : Nat} (hk : k < xs.length) :
    ∃ b off, A = some ⟨b, off, none⟩ ∧ b < B ∧ ∀ B' W, B ≤ B' → Below B' w W → W.cell? ⟨b, off + k * 2, none⟩ = some (.int .i64 xs[k].1) ∧ W.cell? ⟨b, off + k * 2 + 1, none⟩ = some (.int .i64 xs[k].2) := by
  obtain ⟨b, off, e, hb, hc⟩ := h.rng hk
  obtain ⟨h1, h2⟩ := hc k hk
  exact ⟨b, off, e, hb, fun B' W hB q => ⟨(q.cell (p := ⟨b, off + k * 2, none⟩) (by show b < B'; omega)).trans h1, (q.cell (p := ⟨b, off + k * 2 + 1, none⟩) (by show b < B'; omega)).trans h2⟩⟩
set_option maxHeartbeats 4000000 in
theorem places_ref (A : Option Addr) (c : Nat) (xss : List (List Rg)) (w : World) {B : Nat} (hx : Sets w B A xss) (hB : B ≤ w.heap.size) (hn : xss.length ≤ 20) (hl : ∀ l ∈ xss, l.length ≤ 20) (ho : ∀ l ∈ xss, ∀ r ∈ l, oneB r = true) :
    Calls Try.prog 23 #[.slice A xss.length c] w (IntsPost w (plcs xss)) := by
  go_enter Try.func23, Try.ntmps23
  go_wp2
  go_loopw [3, 4] (fun o i wr => ∃ (k : Nat) (A' : Option Addr) (c' : Nat), k ≤ xss.length ∧ i = .int .i64 k ∧ o = .slice A' (plcs (xss.take k)).length c' ∧ (plcs (xss.take k)).length ≤ c' ∧ Rd wr wr.heap.size A' (iv (plcs (xss.take k))) ∧ Below w.heap.size w wr) (fun _ i _ => xss.length - (intOf i).toNat)
  case atStart => exact ⟨0, some ⟨w.heap.size, 0, none⟩, 1, Nat.zero_le _, rfl, rfl, Nat.le_refl _, (rd_new w #[.int .i64 0] 3 _ rfl).mono (by simp), (Below.refl _ _).alloc (Nat.le_refl _) _⟩
  case round =>
    obtain ⟨k, A', c', hk, rfl, rfl, hc', hrd, hb⟩ := hrel
    by_cases hlt : k < xss.length
    · obtain ⟨wo, hwo⟩ : ∃ wo : World, wo = wr := ⟨_, rfl⟩
      subst hwo
      have hbs := hb.size
      obtain ⟨b, off, A1, c1, rfl, hbB, hr1, hg⟩ := (hx.thru hb hB).get hlt
      have hone := ho _ (List.getElem_mem hlt)
      have hlen := hl _ (List.getElem_mem hlt)
      have hpl := plcs_len (xss.take k) (fun l h => hl l (List.mem_of_mem_take h))
      rw [List.length_take] at hpl
      have hpl2 : (plcs (xss.take k)).length ≤ 801 := by omega
      have hnext := plcs_take hlt
      have HN := Lib.hid hnext
      have HX := Lib.hid hx
      have HO := Lib.hid ho
      have HL := Lib.hid hl
      clear hnext hx hpl ho hl
      obtain ⟨o, ho⟩ : ∃ o, plcs (xss.take k) = o := ⟨_, rfl⟩
      rw [ho] at hc' hrd hpl2 ⊢
      have HQ := Lib.hid ho
      clear ho
      obtain ⟨ys, hy⟩ : ∃ ys, xss[k] = ys := ⟨_, rfl⟩
      rw [hy] at hr1 hg hone hlen
      have HY := Lib.hid hy
      have HB := Lib.hid hb
      clear hy hb
      have hbw : b < wo.heap.size := by omega
      have hcell := hg wo.heap.size wo (by omega) (Below.refl _ _)
      go_wp2
      go_loopw [3, 5] (fun p j wr => ∃ (m : Nat) (A2 : Option Addr) (c2 : Nat), m ≤ ys.length ∧ j = .int .i64 m ∧ p = .slice A2 (plc o (ys.take m)).length c2 ∧ (plc o (ys.take m)).length ≤ c2 ∧ Rd wr wr.heap.size A2 (iv (plc o (ys.take m))) ∧ Below wo.heap.size wo wr) (fun _ j _ => ys.length - (intOf j).toNat)
      case atStart => exact ⟨0, A', c', Nat.zero_le _, rfl, rfl, hc', hrd, Below.refl _ _⟩
      case round =>
        clear hcell hc' hrd
        obtain ⟨m, A2, c2, hm, rfl, rfl, hc2, hrd2, hbi⟩ := hrel
        have hcell := hg _ wr (by omega) hbi
        by_cases hlm : m < ys.length
        · obtain ⟨b2, off2, rfl, hb2B, hg2⟩ := (hr1.thru hbi (by omega)).get2 hlm
          have hor := (oneB_iff _).1 (hone _ (List.getElem_mem hlm))
          have hpm := plc_len (ys.take m) o
          rw [List.length_take] at hpm
          have hq0 := withL_len (plc o (ys.take m)) ys[m].1
          have hnx := plc_take (o := o) hlm
          have HNX := Lib.hid hnx
          obtain ⟨p, hp⟩ : ∃ p, plc o (ys.take m) = p := ⟨_, rfl⟩
          rw [hp] at hpm hq0 hc2 hrd2 ⊢
          have HP := Lib.hid hp
          obtain ⟨r, hr⟩ : ∃ r, ys[m] = r := ⟨_, rfl⟩
          rw [hr] at hor hg2 hq0
          have HR := Lib.hid hr
          clear hnx hp hr
          have HE : Hid (plc o (ys.take (m + 1)) = withL (withL p r.1) (r.2 + 1)) := Lib.hid (by rw [HNX.out, HP.out, HR.out])
          have hw1 : IntKind.i64.wrap (r.2 + 1) = r.2 + 1 := by rw [IntKind.wrap_i64]; omega
          have hbis := hbi.size
          have h1 : ∀ W, Below wr.heap.size wr W → Calls Try.prog 36 #[.slice A2 p.length c2, .int .i64 r.1] W fun e w' => (∃ A' c', e = .returned (.slice A' (withL p r.1).length c') ∧ (withL p r.1).length ≤ c' ∧ Rd w' w'.heap.size A' (iv (withL p r.1)) ∧ Below wr.heap.size wr w') := fun W q =>
            (with_ref A2 c2 p r.1 W (hrd2.thru q (Nat.le_refl _)) q.size (by omega) hc2).mono fun e w' ⟨A', c', e1, e2, e3, e4⟩ => ⟨A', c', e1, e2, e3, q.trans (e4.mono q.size)⟩
          have hwl : (withL p r.1).length ≤ 5000 := by omega
          have keep : ∀ W, Below wr.heap.size wr W → W.cell? ⟨b, off + k, none⟩ = some (.slice (some ⟨b2, off2, none⟩) ys.length c1) ∧ W.cell? ⟨b2, off2 + m * 2, none⟩ = some (.int .i64 r.1) ∧ W.cell? ⟨b2, off2 + m * 2 + 1, none⟩ = some (.int .i64 r.2) := fun W q =>
            ⟨hg _ W (by omega) (hbi.trans (q.mono hbis)), hg2 _ W (by omega) q⟩
          have HK := Lib.hid keep
          have HBI := Lib.hid hbi
          clear keep hr1 hg hone hrd2 hg2 hor hpm hq0 hbi hc2
          go_wp2
          clear hcell
          go_region_held3 (fun W => W.cell? ⟨b, off + k, none⟩ = some (.slice (some ⟨b2, off2, none⟩) ys.length c1) ∧ W.cell? ⟨b2, off2 + m * 2, none⟩ = some (.int .i64 r.1) ∧ W.cell? ⟨b2, off2 + m * 2 + 1, none⟩ = some (.int .i64 r.2))
            (exact HK.out _ (by repeat (first | assumption | exact Below.refl _ _ | refine Below.drew ?_)))
            (first
              | (go_at_call 36; (with_reducible refine (h1 _ ?_).mono ?_); (repeat (first | assumption | exact Below.refl _ _ | refine Below.drew ?_)); rintro e w5 ⟨A5, c5, rfl, q1, q2, q3⟩)
              | (go_at_call 36; (with_reducible refine (with_ref A5 c5 (withL p r.1) (r.2 + 1) _ q2 (Nat.le_refl _) hwl q1).mono ?_); rintro e w6 ⟨A6, c6, rfl, s1, s2, s3⟩; replace q3 := q3.trans (s3.mono q3.size)))
          all_goals
            go_wp2
            refine ⟨⟨m + 1, A6, c6, hlm, by go_num, by rw [HE.out], by rw [HE.out]; exact s1, by rw [HE.out]; exact s2, HBI.out.trans (q3.mono hbis)⟩, by simp [intOf]; omega⟩
        · obtain rfl : m = ys.length := by omega
          have HE : Hid (plcs (xss.take (k + 1)) = plc o ys) := Lib.hid (by rw [HN.out, HQ.out, HY.out])
          rw [List.take_length] at hc2 hrd2 ⊢
          clear hr1 hg hone
          go_wp2
          refine ⟨⟨k + 1, A2, c2, hlt, by go_num, by rw [HE.out], by rw [HE.out]; exact hc2, by rw [HE.out]; exact hrd2, HB.out.trans (hbi.mono hbs)⟩, by simp [intOf]; omega⟩
    · obtain rfl : k = xss.length := by omega
      rw [List.take_length] at hc' hrd ⊢
      go_wp2
      go_ret
      exact ⟨A', c', rfl, hc', hrd, hb⟩
end Go.Proofs.Ytlndfkanbibhhaa
