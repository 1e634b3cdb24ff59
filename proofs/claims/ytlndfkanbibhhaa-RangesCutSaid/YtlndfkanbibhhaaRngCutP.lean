/- ranges.Cuts answers as provostref06.Cuts does. Conditions: at most 20 sets of at most 20 ranges, or more than 256 sets. -/
import Derived.Test.YtlndfkanbibhhaaRngFold
import Derived.Test.YtlndfkanbibhhaaRngPlain
namespace Go.Proofs.Ytlndfkanbibhhaa
open Go.RowKit
def accP (xss : List (List Rg)) : List Int := 0 :: xss.flatMap bnds
theorem accP_take {xss : List (List Rg)} {k : Nat} (h : k < xss.length) : accP (xss.take (k + 1)) = accP (xss.take k) ++ bnds xss[k] := by
  unfold accP
  rw [List.take_succ_eq_append_getElem h, List.flatMap_append]
  simp
theorem accP_len (xss : List (List Rg)) (h : ∀ l ∈ xss, l.length ≤ 20) : (accP xss).length ≤ 1 + 40 * xss.length := by
  unfold accP
  induction xss with
  | nil => simp
  | cons l xss ih =>
    have h1 := ih fun x hx => h x (by simp [hx])
    have h2 := h l (by simp)
    have h3 := bnds_len l
    simp only [List.flatMap_cons, List.length_cons, List.length_append] at h1 ⊢
    omega
set_option maxHeartbeats 4000000 in
theorem cuts_any (A : Option Addr) (c : Nat) (xss : List (List Rg)) (w : World) {B : Nat} (hx : Sets w B A xss) (hB : B ≤ w.heap.size) (hn : xss.length ≤ 20 ∨ 256 < xss.length) (hl : ∀ l ∈ xss, l.length ≤ 20) :
    Calls Try.prog 5 #[.slice A xss.length c] w (CutsPost w (cutsR xss)) := by
  rcases hn with hn | hn
  · have hno : ¬ 256 < xss.length := by omega
    have hnoI : ¬ (256 : Int) < xss.length := by omega
    have hl2 : ∀ (k : Nat) (h : k < xss.length), xss[k].length ≤ 20 := fun k h => hl _ (List.getElem_mem h)
    have hlen : ∀ k, (accP (xss.take k)).length ≤ 801 := fun k => by
      have := accP_len (xss.take k) (fun l h => hl l (List.mem_of_mem_take h))
      rw [List.length_take] at this
      omega
    obtain ⟨V, hV⟩ : ∃ V, allM xss = V := ⟨_, rfl⟩
    obtain ⟨R, hR⟩ : ∃ R, cutsR xss = R := ⟨_, rfl⟩
    have hRt : V = true → R = (finalP xss, 0) := fun h => by rw [← hR, final_turns xss (by rw [hV, h])]; exact cutsR_ok hno (by rw [hV, h])
    have hRf : V = false → R = ([], 8) := fun h => by rw [← hR]; exact cutsR_bad hno (by rw [hV, h])
    rw [hR]
    have HV := Lib.hid hV
    clear hR hV hl hno
    go_enter Try.func5, Try.ntmps5
    go_wp2
    go_loopw [4, 14] (fun v i wr => ∃ (k : Nat), k ≤ xss.length ∧ i = .int .i64 k ∧ allM (xss.drop k) = V ∧ wr.ownsRow w.heap.size 3 1 v (accP (xss.take k)).length (iv (accP (xss.take k))) ∧ Below w.heap.size w wr) (fun _ i _ => xss.length - (intOf i).toNat)
    case atStart => exact ⟨0, Nat.zero_le _, rfl, by rw [List.drop_zero, HV.out], ⟨rfl, .inr ⟨w.heap.size, 1, #[.int .i64 0], rfl, Nat.le_refl _, heap_alloc_new _ _, Nat.le_refl _, by unfold maxLen; omega, rfl, rfl⟩⟩, (Below.refl _ _).alloc (Nat.le_refl _) _⟩
    case round =>
      obtain ⟨k, hk, rfl, hd, hown, hb⟩ := hrel
      have hbs := hb.size
      by_cases hlt : k < xss.length
      · obtain ⟨b, off, A1, c1, rfl, hbB, hr1, hg⟩ := (hx.thru hb hB).get hlt
        have hcell := hg wr.heap.size wr (by omega) (Below.refl _ _)
        have hm := check_any A1 c1 xss[k] wr hr1 (by omega) (by have := hl2 k hlt; unfold maxLen; omega)
        rw [allM_drop hlt] at hd
        have hyl := hl2 k hlt
        have hnx := accP_take hlt
        have hlk := hlen k
        obtain ⟨ys, hys⟩ : ∃ ys, xss[k] = ys := ⟨_, rfl⟩
        rw [hys] at hm hd hcell hyl hnx hr1
        obtain ⟨q, hq⟩ : ∃ q, accP (xss.take k) = q := ⟨_, rfl⟩
        rw [hq] at hown hnx hlk
        obtain ⟨O, hO⟩ : ∃ O, mayB ys = O := ⟨_, rfl⟩
        have he : errC ys = if O then 0 else 8 := by rw [errC, hO]
        rw [hO] at hd
        rw [he] at hm
        have HX := Lib.hid hx
        have HL := Lib.hid hl2
        have HN := Lib.hid hnx
        have HLE := Lib.hid hlen
        have hone : O = true → ∀ r ∈ ys, oneB r = true := fun h => by
          rw [h] at hO
          simp only [mayB, Bool.and_eq_true] at hO
          exact chk_one ys _ hO.2
        clear hx hl2 hg hys hO hnx hq hlen he
        go_wp2_with fail
        refine hm.mono ?_
        rintro e w1 ⟨rfl, hb1⟩
        have hb2 := hb.trans (hb1.mono hbs)
        have hb1s := hb1.size
        clear hm hcell
        cases O
        · have hv : V = false := by rw [← hd]; rfl
          have hRv := hRf hv
          subst hRv
          clear hRf hRt hd hone
          go_wp2
          go_ret2
          exact ⟨none, 0, rfl, Rd.nil, hb2⟩
        · simp only [Bool.true_and] at hd
          have hf := fold_any w.heap.size _ q A1 c1 ys w1 ((hr1.thru hb1 (by omega)).mono hB) (own_below hown hb1 (own_lt hown)) (by omega) (hone rfl) hyl (by omega)
          clear hRf hRt hone hown hr1
          go_wp2_with fail
          refine hf.mono ?_
          rintro e w2 ⟨v2, rfl, ho2, hb3⟩
          have hb4 := hb2.trans hb3
          clear hf
          go_wp2
          refine ⟨⟨k + 1, hlt, by go_num, hd, ?_, hb4⟩, by simp [intOf]; omega⟩
          rw [HN.out]
          exact ho2
      · obtain rfl : k = xss.length := by omega
        rw [List.drop_length] at hd
        have hv : V = true := by rw [← hd]; rfl
        have hRv := hRt hv
        subst hRv
        have hle := hlen xss.length
        rw [List.take_length] at hown hle
        obtain ⟨A2, c2, rfl, hc2, hc3⟩ := own_slice hown
        have hpos : 0 < (accP xss).length := by unfold accP; simp
        have hfin : finalP xss = (Lib.compact (srt (accP xss))).filter fun x => !decide (1114111 < x) := rfl
        have hp2 := comp_pos (accP xss) hpos
        obtain ⟨q, hq⟩ : ∃ q, accP xss = q := ⟨_, rfl⟩
        rw [hq] at hown hle hpos hfin hp2 ⊢
        have h1 := sort_own wr w.heap.size q.length c2 A2 q hown hbs hpos (by omega)
        have HX := Lib.hid hx
        have HF := Lib.hid hfin
        clear hRf hRt hd hlen hl2 hx hq hfin hown
        go_wp2_with fail
        refine h1.mono ?_
        rintro e w1 ⟨rfl, ho1, hb1⟩
        clear h1
        have h2 := compact_own w1 w.heap.size q.length c2 A2 (srt q) ho1 hpos
        have hB1 := hb.trans hb1
        obtain ⟨p, hp⟩ : ∃ p, Lib.compact (srt q) = p := ⟨_, rfl⟩
        rw [hp] at h2 hp2
        have HF2 : Hid (finalP xss = p.filter fun x => !decide (1114111 < x)) := Lib.hid (by rw [HF.out, hp])
        clear ho1 hb hb1 hp
        go_wp2_with fail
        refine h2.mono ?_
        rintro e w2 ⟨rfl, ho2, hb2⟩
        clear h2
        have h3 := delete_own w2 w.heap.size p.length c2 A2 p ho2 hp2
        have hB2 := hB1.trans hb2
        obtain ⟨z, hz⟩ : ∃ z, (p.filter fun x => !decide (1114111 < x)) = z := ⟨_, rfl⟩
        rw [hz] at h3
        have HF3 : Hid (finalP xss = z) := Lib.hid (by rw [HF2.out, hz])
        clear ho2 hB1 hb2 hz hp2
        go_wp2_with fail
        refine h3.mono ?_
        rintro e w3 ⟨rfl, ho3, hb3⟩
        clear h3
        have hB3 := hB2.trans hb3
        clear hB2 hb3
        go_wp2
        go_ret2
        rw [HF3.out]
        exact ⟨A2, c2, rfl, Rd.of_own ho3, hB3⟩
  · have hnI : (256 : Int) < xss.length := by omega
    rw [cutsR_many hn]
    go_enter Try.func5, Try.ntmps5
    go_wp2
    go_ret2
    exact ⟨none, 0, rfl, Rd.nil, Below.refl _ _⟩
end Go.Proofs.Ytlndfkanbibhhaa
