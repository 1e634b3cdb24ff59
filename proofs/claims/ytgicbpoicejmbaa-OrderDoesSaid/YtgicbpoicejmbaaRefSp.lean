/- The reference's Drop and Sort, and what the statement writes over. Conditions: at most 4,200 strings within the model's lengths. -/
import Derived.Test.YtgicbpoicejmbaaRefSrt
namespace Go.Proofs.Ytgicbpoicejmbaa
open Go.RowKit
set_option maxHeartbeats 4000000 in
theorem refdrop_any (A : Option Addr) (c : Nat) (xs : List ByteArray) (s : ByteArray) (w : World) {E : Nat} (hx : Rd w E A (sv xs)) (hE : E ≤ w.heap.size) (hn : xs.length ≤ 5000) (hc : xs.length ≤ c) (hz : ∀ s ∈ xs, s.size ≤ maxLen) (hs : s.size ≤ maxLen) :
    Calls Try.prog 22 #[.slice A xs.length c, .string s] w (DropPost w xs s) := by
  obtain ⟨i1, hi, hz0, hz1, hz2⟩ := info_parts info_str
  have hmay := may_any A c xs w hx hn hz
  have hbf := fun W (h : Rd W E A (sv xs)) => before_any A c xs s W h hn hz hs
  have hhas := fun W (h : Rd W E A (sv xs)) => has_any A c xs s W h hn hz hs
  have hkn := before_le xs s
  have hlt : hasB xs s = true → before xs s < xs.length := hasB_lt
  have hL : dropL xs s = if okB xs = true then (if hasB xs s = true then xs.take (before xs s) ++ xs.drop (before xs s + 1) else []) else [] := rfl
  have hC : dropC xs s = if okB xs = true then (if hasB xs s = true then 0 else 6) else 8 := rfl
  generalize before xs s = k at *
  obtain ⟨F, hF⟩ : ∃ F, okB xs = F := ⟨_, rfl⟩
  obtain ⟨G, hG⟩ : ∃ G, hasB xs s = G := ⟨_, rfl⟩
  rw [hF] at hmay hL hC
  rw [hG] at hhas hlt hL hC
  clear hF hG
  cases F
  · have G1 := Lib.hid hL
    have G2 := Lib.hid hC
    clear hbf hhas hlt hL hC
    go_enter Try.func22, Try.ntmps22
    go_wp2_with fail
    refine hmay.mono ?_
    rintro e w1 ⟨rfl, n, rfl⟩
    go_wp2
    go_ret2
    exact DropPost.mk (L := []) (by rw [G1.out]; simp) (by rw [G2.out]; simp) (own_nil _ _) (Below.of_drewN _ _ _)
  · cases G
    · have G1 := Lib.hid hL
      have G2 := Lib.hid hC
      clear hbf hlt hL hC
      go_enter Try.func22, Try.ntmps22
      go_wp2_with fail
      refine hmay.mono ?_
      rintro e w1 ⟨rfl, n, hq⟩
      have hx1 : Rd w1 E A (sv xs) := by rw [hq]; exact hx.drewN n
      have hb1 := world_of ⟨n, hq⟩
      clear hq hmay
      go_wp2_with fail
      refine (hhas w1 hx1).mono ?_
      rintro e w2 ⟨rfl, n2, hq2⟩
      have hb2 := hb1.trans ((world_of ⟨n2, hq2⟩).mono hb1.size)
      clear hq2 hhas
      go_wp2
      go_ret2
      exact DropPost.mk (L := []) (by rw [G1.out]; simp) (by rw [G2.out]; simp) (own_nil _ _) hb2
    · have hkl := hlt rfl
      have G1 := Lib.hid hL
      have G2 := Lib.hid hC
      have hsl := slice_hi A xs.length c k (by omega)
      obtain ⟨A', c', hsl2, hrd⟩ := slice_lo A xs.length c (k + 1) xs rfl (by omega) hc hx
      have hsl3 : ∀ W, (Instr.slice 26 (.slice A xs.length c) (some (.int .i64 ((k : Int) + 1))) none none).run Try.prog W = .ok (.slice A' (xs.length - (k + 1)) c') W := fun W => hsl2 W
      clear hlt hL hC hsl2
      go_enter Try.func22, Try.ntmps22
      go_wp2_with fail
      refine hmay.mono ?_
      rintro e w1 ⟨rfl, n, hq⟩
      have hx1 : Rd w1 E A (sv xs) := by rw [hq]; exact hx.drewN n
      have hb1 := world_of ⟨n, hq⟩
      have hz1' : w1.heap.size = w.heap.size := by rw [hq]; rfl
      clear hq hmay
      go_wp2_with fail
      refine (hhas w1 hx1).mono ?_
      rintro e w2 ⟨rfl, n2, hq2⟩
      have hx2 : Rd w2 E A (sv xs) := by rw [hq2]; exact hx1.drewN n2
      have hb2 := hb1.trans ((world_of ⟨n2, hq2⟩).mono hb1.size)
      have hz2' : w2.heap.size = w.heap.size := by rw [hq2]; exact hz1'
      clear hq2 hhas hx1 hb1 hz1'
      go_wp2_with fail
      refine (hbf w2 hx2).mono ?_
      rintro e w3 ⟨rfl, n3, hq3⟩
      have hx3 : Rd w3 E A (sv xs) := by rw [hq3]; exact hx2.drewN n3
      have hb3 := hb2.trans ((world_of ⟨n3, hq3⟩).mono hb2.size)
      have hz3 : w3.heap.size = w.heap.size := by rw [hq3]; exact hz2'
      clear hq3 hbf hx2 hb2
      have hz4 : w.heap.size ≤ w3.heap.size := by omega
      have HZ := Lib.hid hz3
      clear hz3 hz2'
      go_upto_region 8 with (at_builtin; refine wpList_append_rd _ (by rfl) _ _ _ (by rfl) w3.heap.size 9 i1 (.string ⟨#[]⟩) 16 Try.underlying26 hi hz0 hz1 hz2 (by rfl) (.slice none 0 0) 0 [] (by rfl) (World.ownsRow_nil w3 _ 9 1) (B := E) A k c (sv (xs.take k)) (by rfl) (rd_take hx3 k) (by rw [sv_len, List.length_take]; omega) sv_one (by unfold maxLen; omega) (by omega) (Nat.le_refl _) ?_; intro v1 w4 ho1 hg1 hr1)
      rw [Nat.zero_add, List.nil_append] at ho1
      obtain ⟨A1, c1, rfl, _, _⟩ := own_slice ho1
      have hb34 : Below w3.heap.size w3 w4 := Below.grown (Below.refl _ _) hg1 (Nat.le_refl _) (fun k hk => by cases hk)
      have hb4 : Below w.heap.size w w4 := hb3.trans (hb34.mono hz4)
      have hs4 := hb34.size
      clear hg1 hr1 hx3
      go_wp2_with (at_builtin; refine wpList_append_rd _ (by rfl) _ _ _ (by rfl) w3.heap.size 9 i1 (.string ⟨#[]⟩) 16 Try.underlying26 hi hz0 hz1 hz2 (by rfl) (.slice A1 k c1) k (sv (xs.take k)) (by rfl) ho1 (B := E) A' (xs.length - (k + 1)) c' (sv (xs.drop (k + 1))) (by rfl) (hrd.thru hb4 hE) (by rw [sv_len, List.length_drop]) sv_one (by unfold maxLen; omega) (by omega) hs4 ?_; intro v3 w5 ho3 hg3 hr3)
      go_ret2
      have hb5 : Below w3.heap.size w3 w5 := hb34.grown hg3 hs4 hr3
      have e1 : sv (xs.take k) ++ sv (xs.drop (k + 1)) = sv (xs.take k ++ xs.drop (k + 1)) := by simp [sv]
      have e2 : (xs.take k ++ xs.drop (k + 1)).length = k + (xs.length - (k + 1)) := by simp; omega
      rw [e1, ← e2, HZ.out] at ho3
      exact DropPost.mk (L := xs.take k ++ xs.drop (k + 1)) (by rw [G1.out]; simp) (by rw [G2.out]; simp) ho3 (hb3.trans (hb5.mono hz4))
set_option maxHeartbeats 2000000 in
theorem sorted_any (A : Option Addr) (c : Nat) (xs : List ByteArray) (w : World) {E : Nat} (hx : Rd w E A (sv xs)) (hE : E ≤ w.heap.size) (hn : xs.length ≤ 4999) (hz : ∀ s ∈ xs, s.size ≤ maxLen) :
    Calls Try.prog 38 #[.slice A xs.length c] w (OwnPost w (sortB xs)) := by
  go_enter Try.func38, Try.ntmps38
  go_wp2
  go_loopw [3, 4] (fun v i wr => ∃ k : Nat, k ≤ xs.length ∧ i = .int .i64 k ∧ wr.ownsRow w.heap.size 9 1 v (sortB (xs.take k)).length (sv (sortB (xs.take k))) ∧ Below w.heap.size w wr) (fun _ i _ => xs.length - (intOf i).toNat)
  case atStart => exact ⟨0, Nat.zero_le _, rfl, by rw [List.take_zero, sortB_nil]; exact own_nil _ _, Below.refl _ _⟩
  case round =>
    obtain ⟨k, hk, rfl, hown, hb⟩ := hrel
    by_cases hlt : k < xs.length
    · obtain ⟨b, off, rfl, _, hc⟩ := (hx.thru hb hE).str hlt
      have hcell := hc k hlt
      clear hc
      obtain ⟨A1, c1, rfl, hc1, _⟩ := own_slice hown
      have hrd := Rd.of_own hown
      have hlen := sortB_len (xs.take k)
      have hlen2 : (sortB (xs.take k)).length ≤ 4999 := by simp at hlen; omega
      have hw := with_any A1 c1 (sortB (xs.take k)) xs[k] wr hrd (Nat.le_refl _) (by omega) hc1 (fun s hs => hz s (List.mem_of_mem_take ((sortB_mem _ _).1 hs))) (hz _ (List.getElem_mem hlt))
      rw [with_sort, ← List.take_succ_eq_append_getElem hlt] at hw
      have hsz := hb.size
      clear hrd hlen hlen2 hown
      go_wp2_with fail
      refine hw.mono ?_
      rintro e w1 ⟨v, rfl, hown1, hb1⟩
      clear hw
      go_wp2
      go_roundw
      case rel => exact ⟨k + 1, by omega, by go_num, own_base hown1 hsz, hb.trans (hb1.mono hsz)⟩
      case measure => simp [intOf]; omega
    · obtain rfl : k = xs.length := by omega
      rw [List.take_length] at hown
      go_wp2
      go_ret
      exact ⟨_, rfl, hown, hb⟩
set_option maxHeartbeats 2000000 in
theorem refsort_any (A : Option Addr) (c : Nat) (xs : List ByteArray) (w : World) {E : Nat} (hx : Rd w E A (sv xs)) (hE : E ≤ w.heap.size) (hn : xs.length ≤ maxLen) (hz : ∀ s ∈ xs, s.size ≤ maxLen) :
    Calls Try.prog 23 #[.slice A xs.length c] w (SortPost w xs) := by
  unfold maxLen at hn
  by_cases hm : xs.length ≤ 4096
  · have hd : decide ((4096 : Int) < xs.length) = false := by simp; omega
    have hs := sorted_any A c xs w hx hE (by omega) hz
    go_enter Try.func23, Try.ntmps23
    go_wp2_with fail
    refine hs.mono ?_
    rintro e w1 ⟨v, rfl, hown, hb⟩
    go_wp2
    go_ret2
    refine ⟨_, by rw [sortC, if_pos hm]; rfl, ?_, hb⟩
    rw [sortL, if_pos hm]
    exact hown
  · have hd : decide ((4096 : Int) < xs.length) = true := by simp; omega
    go_enter Try.func23, Try.ntmps23
    go_wp2
    go_ret2
    refine ⟨_, by rw [sortC, if_neg hm]; rfl, ?_, Below.refl _ _⟩
    rw [sortL, if_neg hm]
    exact ⟨rfl, .inl ⟨rfl, rfl⟩⟩
theorem gb_refl (w : World) (r : Option Nat) : w.grownBy w r := ⟨rfl, rfl, rfl, Nat.le_refl _, fun _ _ _ => rfl⟩
theorem gb_trans {a b c : World} {r : Option Nat} (h : a.grownBy b r) (k : b.grownBy c r) : a.grownBy c r :=
  ⟨k.os.trans h.os, k.tape.trans h.tape, k.output.trans h.output, Nat.le_trans h.size k.size, fun i hi hne => (k.block i (Nat.lt_of_lt_of_le hi h.size) hne).trans (h.block i hi hne)⟩
set_option maxHeartbeats 2000000 in
theorem spoil_any (v : Value) (n base : Nat) (L : List Value) (w : World) (hown : w.ownsRow base 9 1 v n L) (hn : n ≤ maxLen) :
    Calls Try.prog 25 #[v] w fun e w' => e = .returned (.tuple #[]) ∧ w.grownBy w' v.ownBlock := by
  unfold maxLen at hn
  rcases hown.2 with ⟨rfl, rfl⟩ | ⟨g, cap, cur, rfl, hg, hh, hnc, hcm, hcs, ht⟩
  · go_enter Try.func25, Try.ntmps25
    go_wp2
    refine wp_loop_rounds 1 ?_
    rw [rounds_succ]
    go_wp2
    go_end0
    exact ⟨rfl, gb_refl _ _⟩
  · clear hh hnc hcm hcs ht
    go_enter Try.func25, Try.ntmps25
    go_wp2
    go_loopw [2] (fun i wr => ∃ (k : Nat) (L' : List Value), k ≤ n ∧ i = .int .i64 k ∧ wr.ownsRow base 9 1 (.slice (some ⟨g, 0, none⟩) n cap) n L' ∧ w.grownBy wr (some g)) (fun i _ => n - (intOf i).toNat)
    case atStart => exact ⟨0, L, Nat.zero_le _, rfl, hown, gb_refl _ _⟩
    case round =>
      obtain ⟨k, L', hk, rfl, ho, hb⟩ := hrel
      clear hown
      by_cases hlt : k < n
      · have hl : L'.length = n := by have := ho.1; omega
        have hcell : wr.cell? ⟨g, k, none⟩ = some (L'[k]'(by omega)) := by
          rw [ho.cellAt k (by omega), List.getElem?_eq_getElem (by omega)]
        have hfr := ho.frozenAt k
        obtain ⟨h1, h2⟩ := ho.stored k (.string ⟨#[115, 112, 111, 105, 108, 116]⟩)
        have hb' := gb_trans hb h2
        clear ho h2 hb
        go_wp2
        go_roundw
        case rel => exact ⟨k + 1, _, by omega, by go_num, h1, hb'⟩
        case measure => simp [intOf]; omega
      · obtain rfl : k = n := by omega
        go_wp2
        go_end0
        exact ⟨rfl, hb⟩
end Go.Proofs.Ytgicbpoicejmbaa
