/- The reference's Find, Check, Put, Drop, Sort; and what the statement writes over. Conditions: at most 4,200 strings within the model's lengths. -/
import Derived.Test.YtgicbpoicejmbaaRefLst
namespace Go.Proofs.Ytgicbpoicejmbaa
open Go.RowKit
section
variable (A : Option Addr) (c : Nat) (xs : List ByteArray) (s : ByteArray) (w : World) {E : Nat} (hx : Rd w E A (sv xs)) (hE : E ≤ w.heap.size) (hn : xs.length ≤ 5000) (hc : xs.length ≤ c) (hz : ∀ s ∈ xs, s.size ≤ maxLen) (hs : s.size ≤ maxLen)
include hx hn hz
theorem refcheck_any : Calls Try.prog 24 #[.slice A xs.length c] w fun e w' => e = .returned (.int .i64 (code (okB xs))) ∧ ∃ n, w' = w.drewN n := by
  have hmay := may_any A c xs w hx hn hz
  obtain ⟨F, hF⟩ : ∃ F, okB xs = F := ⟨_, rfl⟩
  rw [hF] at hmay ⊢
  clear hF
  cases F
  · go_enter Try.func24, Try.ntmps24
    go_wp2_with fail
    refine hmay.mono ?_
    rintro e w1 ⟨rfl, n, rfl⟩
    go_wp2
    go_ret
    exact ⟨rfl, ex_drew0⟩
  · go_enter Try.func24, Try.ntmps24
    go_wp2_with fail
    refine hmay.mono ?_
    rintro e w1 ⟨rfl, n, rfl⟩
    go_wp2
    go_ret
    exact ⟨rfl, ex_drew0⟩
include hs
theorem reffind_any : Calls Try.prog 20 #[.slice A xs.length c, .string s] w fun e w' => e = .returned (.tuple #[.int .i64 (if okB xs = true then (before xs s : Nat) else 0), .bool (okB xs && hasB xs s)]) ∧ ∃ n, w' = w.drewN n := by
  have hmay := may_any A c xs w hx hn hz
  have hbf := fun W (h : Rd W E A (sv xs)) => before_any A c xs s W h hn hz hs
  have hhas := fun W (h : Rd W E A (sv xs)) => has_any A c xs s W h hn hz hs
  obtain ⟨F, hF⟩ : ∃ F, okB xs = F := ⟨_, rfl⟩
  rw [hF] at hmay ⊢
  clear hF
  generalize before xs s = k at *
  generalize hasB xs s = b at *
  cases F
  · go_enter Try.func20, Try.ntmps20
    go_wp2_with fail
    refine hmay.mono ?_
    rintro e w1 ⟨rfl, n, rfl⟩
    go_wp2
    go_ret2
    exact ⟨by simp, ex_drew0⟩
  · go_enter Try.func20, Try.ntmps20
    go_wp2_with fail
    refine hmay.mono ?_
    rintro e w1 ⟨rfl, n, hq⟩
    have hx1 : Rd w1 E A (sv xs) := by rw [hq]; exact hx.drewN n
    have HQ := Lib.hid hq
    clear hq hmay
    go_wp2_with fail
    refine (hbf w1 hx1).mono ?_
    rintro e w2 ⟨rfl, n2, hq2⟩
    have hx2 : Rd w2 E A (sv xs) := by rw [hq2]; exact hx1.drewN n2
    have HQ2 := Lib.hid hq2
    clear hq2 hx1 hbf
    go_wp2_with fail
    refine (hhas w2 hx2).mono ?_
    rintro e w3 ⟨rfl, n3, hq3⟩
    have HQ3 := Lib.hid hq3
    clear hq3 hx2 hhas
    go_wp2
    go_ret2
    refine ⟨by simp, n + (n2 + n3), ?_⟩
    rw [HQ3.out, HQ2.out, HQ.out, World.drewN_drewN, World.drewN_drewN]
end
theorem with_of (xs : List ByteArray) (s : ByteArray) (_ : Pw xs) : withL xs s = if hasB xs s = true then xs else ins xs s := by
  unfold withL ins
  by_cases h : hasB xs s = true
  · have hl := hasB_lt h
    have he := of_decide_eq_true ((hasB_at hl).symm.trans h)
    rw [if_pos h, if_pos h]
    rw [List.append_assoc, List.singleton_append]
    conv => rhs; rw [← List.take_append_drop (before xs s) xs, List.drop_eq_getElem_cons hl, he]
  · rw [if_neg h, if_neg h, Nat.add_zero, List.append_assoc, List.singleton_append]
theorem with_sort (xs : List ByteArray) (s : ByteArray) : withL (sortB xs) s = sortB (xs ++ [s]) := by
  rw [with_of _ _ (sortB_pw xs)]
  have hpw := sortB_pw xs
  by_cases h : hasB (sortB xs) s = true
  · rw [if_pos h]
    refine pw_ext hpw (sortB_pw _) fun o => ?_
    have hm := (has_mem hpw).1 h
    rw [sortB_mem] at hm
    rw [sortB_mem, sortB_mem, List.mem_append, List.mem_singleton]
    constructor
    · exact .inl
    · rintro (h | rfl)
      · exact h
      · exact hm
  · rw [if_neg h]
    have hn : s ∉ sortB xs := fun e => h ((has_mem hpw).2 e)
    refine pw_ext (ins_pw hpw hn) (sortB_pw _) fun o => ?_
    rw [ins_mem, sortB_mem, sortB_mem]
    simp [or_comm]
theorem with_len (xs : List ByteArray) (s : ByteArray) : (withL xs s).length ≤ xs.length + 1 := by
  unfold withL
  have := before_le xs s
  split <;> simp <;> omega
/-- what the reference's Put gives -/
theorem put_with {xs : List ByteArray} {s : ByteArray} (ho : okB xs = true) : (putL xs s = if 4096 < (withL xs s).length then [] else withL xs s) ∧ putC xs s = if 4096 < (withL xs s).length then 9 else 0 := by
  obtain ⟨hl, hp⟩ := okB_pw.1 ho
  rw [with_of xs s hp]
  unfold putL putC
  rw [if_pos ho, if_pos ho]
  by_cases h : hasB xs s = true
  · rw [if_pos h, if_pos h, if_pos h, if_neg (by omega), if_neg (by omega)]
    exact ⟨rfl, rfl⟩
  · rw [if_neg h, if_neg h, if_neg h, ins_len]
    by_cases h4 : xs.length = 4096
    · rw [if_pos h4, if_pos h4, if_pos (by omega), if_pos (by omega)]
      exact ⟨rfl, rfl⟩
    · rw [if_neg h4, if_neg h4, if_neg (by omega), if_neg (by omega)]
      exact ⟨rfl, rfl⟩
set_option maxHeartbeats 2000000 in
theorem refput_any (A : Option Addr) (c : Nat) (xs : List ByteArray) (s : ByteArray) (w : World) {E : Nat} (hx : Rd w E A (sv xs)) (hE : E ≤ w.heap.size) (hn : xs.length ≤ 5000) (hc : xs.length ≤ c) (hz : ∀ s ∈ xs, s.size ≤ maxLen) (hs : s.size ≤ maxLen) :
    Calls Try.prog 21 #[.slice A xs.length c, .string s] w (PutPost w xs s) := by
  have hmay := may_any A c xs w hx hn hz
  have hlen := with_len xs s
  have hpw : okB xs = true → (putL xs s = if 4096 < (withL xs s).length then [] else withL xs s) ∧ putC xs s = if 4096 < (withL xs s).length then 9 else 0 := put_with
  have hno : okB xs = false → putL xs s = [] ∧ putC xs s = 8 := fun h => by unfold putL putC; rw [if_neg (by rw [h]; simp), if_neg (by rw [h]; simp)]; exact ⟨rfl, rfl⟩
  obtain ⟨F, hF⟩ : ∃ F, okB xs = F := ⟨_, rfl⟩
  rw [hF] at hmay hpw hno
  clear hF
  cases F
  · obtain ⟨g1, g2⟩ := hno rfl
    have G1 := Lib.hid g1
    have G2 := Lib.hid g2
    clear hpw hno g1 g2
    go_enter Try.func21, Try.ntmps21
    go_wp2_with fail
    refine hmay.mono ?_
    rintro e w1 ⟨rfl, n, rfl⟩
    go_wp2
    go_ret2
    exact PutPost.mk (L := []) G1.out G2.out (own_nil _ _) (Below.of_drewN _ _ _)
  · obtain ⟨g1, g2⟩ := hpw rfl
    have hw := fun W h h2 => with_any A c xs s W (E := E) h h2 hn hc hz hs
    generalize withL xs s = L at *
    have G1 := Lib.hid g1
    have G2 := Lib.hid g2
    clear hpw hno g1 g2
    go_enter Try.func21, Try.ntmps21
    go_wp2_with fail
    refine hmay.mono ?_
    rintro e w1 ⟨rfl, n, hq⟩
    have hx1 : Rd w1 E A (sv xs) := by rw [hq]; exact hx.drewN n
    have hb1 := world_of ⟨n, hq⟩
    have hs1 : w1.heap.size = w.heap.size := by rw [hq]; rfl
    clear hq hmay
    go_wp2_with fail
    refine (hw w1 hx1 (by omega)).mono ?_
    rintro e w2 ⟨v, rfl, hown, hb2⟩
    obtain ⟨A2, c2, rfl, _, _⟩ := own_slice hown
    rw [hs1] at hown hb2
    clear hw hx1
    by_cases h4 : 4096 < L.length
    · have h4' : (4096 : Int) < L.length := by omega
      go_wp2
      go_ret2
      exact PutPost.mk (L := []) (by rw [G1.out, if_pos h4]) (by rw [G2.out, if_pos h4]) (own_nil _ _) (hb1.trans hb2)
    · have h4' : ¬ (4096 : Int) < L.length := by omega
      go_wp2
      go_ret2
      exact PutPost.mk (L := L) (by rw [G1.out, if_neg h4]) (by rw [G2.out, if_neg h4]) hown (hb1.trans hb2)
end Go.Proofs.Ytgicbpoicejmbaa
