/- The reference's lists: Twin, Find, Check, With, Put, Drop, Sort; and what the statement writes over. Conditions: at most 4,200 strings within the model's lengths. -/
import Derived.Test.YtgicbpoicejmbaaRefOrd
import Derived.Deep.DeepCutAuto
namespace Go.Proofs.Ytgicbpoicejmbaa
open Go.RowKit
theorem sv_drop (xs : List ByteArray) (k : Nat) : (sv xs).drop k = sv (xs.drop k) := by simp [sv]
theorem sv_tk (xs : List ByteArray) (k : Nat) : (sv xs).take k = sv (xs.take k) := by simp [sv]
theorem sz_str (w : World) : (sizeOf 9).run Try.prog w = .ok 1 w := Try.sizeOf9 w
theorem slice_hi (A : Option Addr) (n c k : Nat) (hk : k ≤ c) : ∀ W, (Instr.slice 26 (.slice A n c) none (some (.int .i64 k)) none).run Try.prog W = .ok (.slice A k c) W := by
  intro W
  have hk' : (k : Int) ≤ c := by omega
  go_simp
theorem slice_lo (A : Option Addr) (n c k : Nat) (xs : List ByteArray) (hn : xs.length = n) (hk : k ≤ n) (hc : n ≤ c) {w : World} {E : Nat} (hx : Rd w E A (sv xs)) :
    ∃ A' c', (∀ W, (Instr.slice 26 (.slice A n c) (some (.int .i64 k)) none none).run Try.prog W = .ok (.slice A' (n - k) c') W) ∧ Rd w E A' (sv (xs.drop k)) := by
  have hk' : (k : Int) ≤ n := by omega
  refine ⟨if c = k then A else A.map (·.add k), c - k, fun W => ?_, ?_⟩
  · go_simp
  · by_cases he : k = n
    · left
      rw [List.drop_of_length_le (by omega)]
      rfl
    · have hck : c ≠ k := by omega
      rw [if_neg hck]
      obtain ⟨b, off, rfl, hb, hcell⟩ := hx.str (k := k) (by omega)
      refine .inr ⟨b, off + k, by simp [Addr.add], hb, fun j hj => ?_⟩
      have hj' : k + j < xs.length := by simp [sv] at hj; omega
      rw [Nat.add_assoc, hcell (k + j) hj']
      simp [sv]
theorem rd_take {w : World} {E : Nat} {A : Option Addr} {xs : List ByteArray} (hx : Rd w E A (sv xs)) (k : Nat) : Rd w E A (sv (xs.take k)) := by
  rcases hx with h | ⟨b, off, e, hb, hc⟩
  · left
    rw [← sv_tk, h, List.take_nil]
  · refine .inr ⟨b, off, e, hb, fun j hj => ?_⟩
    have hj' : j < xs.length := by simp [sv] at hj; omega
    rw [hc j (by rw [sv_len]; exact hj')]
    simp [sv]
def OwnPost (w : World) (L : List ByteArray) (e : Ending) (w' : World) : Prop := ∃ v, e = .returned v ∧ w'.ownsRow w.heap.size 9 1 v L.length (sv L) ∧ Below w.heap.size w w'
set_option maxHeartbeats 1000000 in
theorem reftwin_any (A : Option Addr) (c : Nat) (xs : List ByteArray) (w : World) {E : Nat} (hx : Rd w E A (sv xs)) (hn : xs.length ≤ 5000) :
    Calls Try.prog 19 #[.slice A xs.length c] w (OwnPost w xs) := by
  obtain ⟨i1, hi, hz0, hz1, hz2⟩ := info_parts info_str
  go_enter Try.func19, Try.ntmps19
  go_wp2_with (at_builtin; refine wpList_append_rd _ (by rfl) _ _ _ (by rfl) w.heap.size 9 i1 (.string ⟨#[]⟩) 16 Try.underlying26 hi hz0 hz1 hz2 (by rfl) (.slice none 0 0) 0 [] (by rfl) (World.ownsRow_nil w _ 9 1) (B := E) A xs.length c (sv xs) (by rfl) hx (sv_len xs) sv_one (by unfold maxLen; omega) (by omega) (Nat.le_refl _) ?_; intro v1 w2 ho1 hg1 hr1)
  go_ret
  rw [Nat.zero_add, List.nil_append] at ho1
  exact ⟨_, rfl, ho1, Below.grown (Below.refl _ _) hg1 (Nat.le_refl _) (fun k hk => by cases hk)⟩
def withL (xs : List ByteArray) (s : ByteArray) : List ByteArray := xs.take (before xs s) ++ [s] ++ xs.drop (before xs s + if hasB xs s = true then 1 else 0)
set_option maxHeartbeats 4000000 in
theorem with_any (A : Option Addr) (c : Nat) (xs : List ByteArray) (s : ByteArray) (w : World) {E : Nat} (hx : Rd w E A (sv xs)) (hE : E ≤ w.heap.size) (hn : xs.length ≤ 5000) (hc : xs.length ≤ c) (hz : ∀ s ∈ xs, s.size ≤ maxLen) (hs : s.size ≤ maxLen) :
    Calls Try.prog 37 #[.slice A xs.length c, .string s] w (OwnPost w (withL xs s)) := by
  obtain ⟨i1, hi, hz0, hz1, hz2⟩ := info_parts info_str
  have hbf := before_any A c xs s w hx hn hz hs
  have hhas := fun W (h : Rd W E A (sv xs)) => has_any A c xs s W h hn hz hs
  have hkn := before_le xs s
  have hlt : hasB xs s = true → before xs s < xs.length := hasB_lt
  have hW : withL xs s = xs.take (before xs s) ++ [s] ++ xs.drop (before xs s + if hasB xs s = true then 1 else 0) := rfl
  generalize before xs s = k at *
  obtain ⟨F, hF⟩ : ∃ F, hasB xs s = F := ⟨_, rfl⟩
  rw [hF] at hW hhas hlt
  clear hF
  cases F
  · have hkd : k + 0 ≤ xs.length := by omega
    have hsl := slice_hi A xs.length c k (by omega)
    obtain ⟨A', c', hsl2, hrd⟩ := slice_lo A xs.length c k xs rfl (by omega) hc hx
    have HW := Lib.hid hW
    clear hW hlt hkd
    go_enter Try.func37, Try.ntmps37
    go_wp2_with fail
    refine hbf.mono ?_
    rintro e w1 ⟨rfl, n1, hq⟩
    have hb1 := world_of ⟨n1, hq⟩
    have hs1 : w.heap.size = w1.heap.size := by rw [hq]; rfl
    have hx1 := hx.thru hb1 hE
    clear hbf hq
    go_upto_region 4 with (at_builtin; refine wpList_append_rd _ (by rfl) _ _ _ (by rfl) w1.heap.size 9 i1 (.string ⟨#[]⟩) 16 Try.underlying26 hi hz0 hz1 hz2 (by rfl) (.slice none 0 0) 0 [] (by rfl) (World.ownsRow_nil w1 _ 9 1) (B := E) A k c (sv (xs.take k)) (by rfl) (rd_take hx1 k) (by rw [sv_len, List.length_take]; omega) sv_one (by unfold maxLen; omega) (by omega) (Nat.le_refl _) ?_; intro v1 w2 ho1 hg1 hr1)
    rw [Nat.zero_add, List.nil_append] at ho1
    obtain ⟨A1, c1, rfl, _, _⟩ := own_slice ho1
    have hb2 : Below w1.heap.size w1 w2 := Below.grown (Below.refl _ _) hg1 (Nat.le_refl _) (fun k hk => by cases hk)
    have hs2 := hb2.size
    clear hg1 hr1 hx1
    go_upto_region 5 with (at_builtin; refine wpList_append_rd _ (by rfl) _ _ _ (by rfl) w1.heap.size 9 i1 (.string ⟨#[]⟩) 16 Try.underlying26 hi hz0 hz1 hz2 (by rfl) (.slice A1 k c1) k (sv (xs.take k)) (by rfl) (ho1.alloc _) (B := (w2.heap.size + 1)) (some ⟨w2.heap.size, 0, none⟩) 1 1 (sv [s]) (by rfl) (rd_new w2 #[.string s] 9 _ rfl) rfl sv_one (by unfold maxLen; omega) (by omega) (by simp; omega) ?_; intro v2 w3 ho2 hg2 hr2)
    obtain ⟨A2, c2, rfl, _, _⟩ := own_slice ho2
    have hb3 : Below w1.heap.size w1 w3 := (hb2.alloc hs2 _).grown hg2 (by simp; omega) hr2
    have hs3 := hb3.size
    have hx3 := hx.thru (hb1.trans (hb3.mono (by omega))) hE
    clear hg2 hr2 ho1 hb2 hs2
    go_wp2_with fail
    refine (hhas w3 hx3).mono ?_
    rintro e w4 ⟨rfl, n4, hq4⟩
    have hq := world_of ⟨n4, hq4⟩
    have hb4 : Below w.heap.size w w4 := hb1.trans ((hb3.mono (by omega)).trans (hq.mono (by omega)))
    have hs4 : w3.heap.size = w4.heap.size := by rw [hq4]; rfl
    clear hq4 hhas hx3
    go_wp2_with (at_builtin; refine wpList_append_rd _ (by rfl) _ _ _ (by rfl) w1.heap.size 9 i1 (.string ⟨#[]⟩) 16 Try.underlying26 hi hz0 hz1 hz2 (by rfl) (.slice A2 (k + 1) c2) (k + 1) (sv (xs.take k) ++ sv [s]) (by rfl) (own_below ho2 hq (own_lt ho2)) (B := E) A' (xs.length - k) c' (sv (xs.drop k)) (by rfl) (hrd.thru hb4 hE) (by rw [sv_len, List.length_drop]) sv_one (by unfold maxLen; omega) (by omega) (by omega) ?_; intro v3 w5 ho3 hg3 hr3)
    go_ret
    have hb5 : Below w1.heap.size w1 w5 := (hb3.trans (hq.mono (by omega))).grown hg3 (by omega) hr3
    refine ⟨_, rfl, ?_, hb1.trans (hb5.mono (by omega))⟩
    have e0 : withL xs s = xs.take k ++ [s] ++ xs.drop k := by rw [HW.out]; simp
    rw [e0, hs1]
    have e1 : sv (xs.take k) ++ sv [s] ++ sv (xs.drop k) = sv (xs.take k ++ [s] ++ xs.drop k) := by simp [sv]
    rw [e1] at ho3
    have e2 : (xs.take k ++ [s] ++ xs.drop k).length = k + 1 + (xs.length - k) := by simp; omega
    rw [e2]
    exact ho3
  · have hkd : k + 1 ≤ xs.length := hlt rfl
    have hsl := slice_hi A xs.length c k (by omega)
    obtain ⟨A', c', hsl2, hrd⟩ := slice_lo A xs.length c (k + 1) xs rfl (by omega) hc hx
    have hsl3 : ∀ W, (Instr.slice 26 (.slice A xs.length c) (some (.int .i64 ((k : Int) + 1))) none none).run Try.prog W = .ok (.slice A' (xs.length - (k + 1)) c') W := fun W => hsl2 W
    have HW := Lib.hid hW
    clear hW hlt hkd hsl2
    go_enter Try.func37, Try.ntmps37
    go_wp2_with fail
    refine hbf.mono ?_
    rintro e w1 ⟨rfl, n1, hq⟩
    have hb1 := world_of ⟨n1, hq⟩
    have hs1 : w.heap.size = w1.heap.size := by rw [hq]; rfl
    have hx1 := hx.thru hb1 hE
    clear hbf hq
    go_upto_region 4 with (at_builtin; refine wpList_append_rd _ (by rfl) _ _ _ (by rfl) w1.heap.size 9 i1 (.string ⟨#[]⟩) 16 Try.underlying26 hi hz0 hz1 hz2 (by rfl) (.slice none 0 0) 0 [] (by rfl) (World.ownsRow_nil w1 _ 9 1) (B := E) A k c (sv (xs.take k)) (by rfl) (rd_take hx1 k) (by rw [sv_len, List.length_take]; omega) sv_one (by unfold maxLen; omega) (by omega) (Nat.le_refl _) ?_; intro v1 w2 ho1 hg1 hr1)
    rw [Nat.zero_add, List.nil_append] at ho1
    obtain ⟨A1, c1, rfl, _, _⟩ := own_slice ho1
    have hb2 : Below w1.heap.size w1 w2 := Below.grown (Below.refl _ _) hg1 (Nat.le_refl _) (fun k hk => by cases hk)
    have hs2 := hb2.size
    clear hg1 hr1 hx1
    go_upto_region 5 with (at_builtin; refine wpList_append_rd _ (by rfl) _ _ _ (by rfl) w1.heap.size 9 i1 (.string ⟨#[]⟩) 16 Try.underlying26 hi hz0 hz1 hz2 (by rfl) (.slice A1 k c1) k (sv (xs.take k)) (by rfl) (ho1.alloc _) (B := (w2.heap.size + 1)) (some ⟨w2.heap.size, 0, none⟩) 1 1 (sv [s]) (by rfl) (rd_new w2 #[.string s] 9 _ rfl) rfl sv_one (by unfold maxLen; omega) (by omega) (by simp; omega) ?_; intro v2 w3 ho2 hg2 hr2)
    obtain ⟨A2, c2, rfl, _, _⟩ := own_slice ho2
    have hb3 : Below w1.heap.size w1 w3 := (hb2.alloc hs2 _).grown hg2 (by simp; omega) hr2
    have hs3 := hb3.size
    have hx3 := hx.thru (hb1.trans (hb3.mono (by omega))) hE
    clear hg2 hr2 ho1 hb2 hs2
    go_wp2_with fail
    refine (hhas w3 hx3).mono ?_
    rintro e w4 ⟨rfl, n4, hq4⟩
    have hq := world_of ⟨n4, hq4⟩
    have hb4 : Below w.heap.size w w4 := hb1.trans ((hb3.mono (by omega)).trans (hq.mono (by omega)))
    have hs4 : w3.heap.size = w4.heap.size := by rw [hq4]; rfl
    clear hq4 hhas hx3
    go_wp2_with (at_builtin; refine wpList_append_rd _ (by rfl) _ _ _ (by rfl) w1.heap.size 9 i1 (.string ⟨#[]⟩) 16 Try.underlying26 hi hz0 hz1 hz2 (by rfl) (.slice A2 (k + 1) c2) (k + 1) (sv (xs.take k) ++ sv [s]) (by rfl) (own_below ho2 hq (own_lt ho2)) (B := E) A' (xs.length - (k + 1)) c' (sv (xs.drop (k + 1))) (by rfl) (hrd.thru hb4 hE) (by rw [sv_len, List.length_drop]) sv_one (by unfold maxLen; omega) (by omega) (by omega) ?_; intro v3 w5 ho3 hg3 hr3)
    go_ret
    have hb5 : Below w1.heap.size w1 w5 := (hb3.trans (hq.mono (by omega))).grown hg3 (by omega) hr3
    refine ⟨_, rfl, ?_, hb1.trans (hb5.mono (by omega))⟩
    have e0 : withL xs s = xs.take k ++ [s] ++ xs.drop (k + 1) := by rw [HW.out]; simp
    rw [e0, hs1]
    have e1 : sv (xs.take k) ++ sv [s] ++ sv (xs.drop (k + 1)) = sv (xs.take k ++ [s] ++ xs.drop (k + 1)) := by simp [sv]
    rw [e1] at ho3
    have e2 : (xs.take k ++ [s] ++ xs.drop (k + 1)).length = k + 1 + (xs.length - (k + 1)) := by simp; omega
    rw [e2]
    exact ho3
end Go.Proofs.Ytgicbpoicejmbaa
