/- Contracts of slices.Clone, slices.Insert (at strings) over rows that the call owns, and of order.Put. Conditions: a list of at most 4,096 strings where it rises. -/
import Derived.Test.YtgicbpoicejmbaaOrder
import Derived.Test.YtgicbpoicejmbaaOwn
import Derived.Test.YtgicbpoicejmbaaShelf
import Derived.Shelf.Spec.SlicesInsertGrow
namespace Go.Proofs.Ytgicbpoicejmbaa
open Go.RowKit

theorem Rd.notNone {w : World} {E : Nat} {xs : List Value} (h : Rd w E none xs) : xs = [] := by
  rcases h with h | ⟨b, off, e, _⟩
  · exact h
  · cases e
theorem sv_nil {xs : List ByteArray} (h : sv xs = []) : xs = [] := by simpa [sv] using h
theorem sv_get (xs : List ByteArray) (j : Nat) (v : Value) (h : (sv xs)[j]? = some v) : ∃ s, xs[j]? = some s ∧ v = .string s := by
  simp [sv, List.getElem?_map] at h
  obtain ⟨s, h1, h2⟩ := h
  exact ⟨s, h1, h2.symm⟩
theorem sv_one {xs : List ByteArray} : ∀ v ∈ sv xs, v.oneCell' = true := by
  intro v hv
  simp [sv] at hv
  obtain ⟨s, _, rfl⟩ := hv
  rfl

theorem clone_any (A : Option Addr) (c : Nat) (xs : List ByteArray) (w : World) {E : Nat} (hx : Rd w E A (sv xs)) (hn : xs.length * 16 ≤ 140737488355328) :
    Calls Try.prog 28 #[.slice A xs.length c] w fun e w' => ∃ v, e = .returned v ∧ w'.ownsRow w.heap.size 9 1 v xs.length (sv xs) ∧ Below w.heap.size w w' := by
  rcases A with _ | a
  · have := sv_nil hx.notNone
    subst this
    refine (Try.slices_Clone_string_nil _ _ w).mono ?_
    rintro e w' ⟨rfl, rfl⟩
    exact ⟨_, rfl, ⟨rfl, .inl ⟨rfl, rfl⟩⟩, Below.refl _ _⟩
  · by_cases h0 : xs = []
    · subst h0
      refine (Try.slices_Clone_string_zero a c w).mono ?_
      rintro e w' ⟨v, rfl, h1, _, h2⟩
      exact ⟨_, rfl, h1, h2⟩
    · obtain ⟨b, off, e, hb, hc⟩ := hx.str (List.length_pos_iff.2 h0)
      cases e
      refine (Try.slices_Clone_string b off xs.length c xs w (Nat.le_refl _) hn (fun j hj => ?_)).mono ?_
      · rw [hc j hj]; simp [List.getD, List.getElem?_eq_getElem hj]
      · rintro e w' ⟨v, rfl, h1, _, h2⟩
        exact ⟨_, rfl, by simpa [sv] using h1, h2⟩

theorem take_all {l : List Value} {n : Nat} (h : l.length = n) : l.take n = l := List.take_of_length_le (by omega)

theorem own_new (w : World) (base : Nat) (e : TypeId) (n c : Nat) (arr : Array Value) (xs : List Value) (hb : base ≤ w.heap.size) (hl : xs.length = n) (hn : n ≤ c) (hc : c ≤ maxLen) (hs : arr.size = c) (ht : arr.toList.take n = xs) :
    (w.alloc (.cells arr e)).ownsRow base e 1 (.slice (some ⟨w.heap.size, 0, none⟩) n c) n xs :=
  ⟨by omega, .inr ⟨w.heap.size, c, arr, rfl, hb, heap_alloc_new w _, hn, hc, by omega, by rw [Nat.mul_one]; exact ht⟩⟩

set_option maxHeartbeats 1000000 in
theorem insert_own (w : World) (base n c i vb : Nat) (A : Option Addr) (xs : List ByteArray) (s : ByteArray) (hown : w.ownsRow base 9 1 (.slice A n c) n (sv xs)) (hi : i ≤ n) (hn : n ≤ 4096)
    (hvb : w.heap[vb]? = some (.cells #[.string s] 9 (0, 0))) (hne : ∀ g, A = some ⟨g, 0, none⟩ → g ≠ vb) (hbase : base ≤ w.heap.size) :
    Calls Try.prog 29 #[.slice A n c, .int .i64 i, .slice (some ⟨vb, 0, none⟩) 1 1] w fun e w' =>
      ∃ v, e = .returned v ∧ w'.ownsRow base 9 1 v (n + 1) (sv (xs.take i ++ s :: xs.drop i)) ∧ Below base w w' := by
  have hlen : xs.length = n := by have := hown.1; rw [sv_len] at this; omega
  have hv1 : ∀ j v, ([Value.string s] : List Value)[j]? = some v → w.cell? ⟨vb, 0 + j, none⟩ = some v := by
    intro j v hj
    rcases j with _ | j
    · simp at hj; subst hj; simp [World.cell?, hvb]
    · simp at hj
  have h1v : ∀ v ∈ ([Value.string s] : List Value), v.oneCell' = true := by simp [Value.oneCell']
  have hsh : w.shape? vb = some (9, 1) := by simp [World.shape?, hvb]
  have hfz : ∀ o, w.frozen? ⟨vb, o, none⟩ = false := by intro o; simp [World.frozen?, hvb]
  obtain ⟨h0, h2⟩ := hown
  have hrd : ∀ {g : Nat} {cur : Array Value} {cap : Nat}, w.heap[g]? = some (.cells cur 9 (0, 0)) → n ≤ cap → cur.size = cap → cur.toList.take n = sv xs → ∀ j v, (sv xs)[j]? = some v → w.cell? ⟨g, 0 + j, none⟩ = some v := by
    intro g cur cap hh hcap hsz ht j v hj
    rw [← ht, List.getElem?_take] at hj
    simp only [World.cell?, hh, Nat.zero_add]
    split at hj
    · simpa using hj
    · cases hj
  have hfin : ∀ (L : List Value) (cap : Nat), L.take n = sv xs → n ≤ cap → L.length = cap → (L.take i = sv (xs.take i)) := by
    intro L cap h1 _ _
    have : L.take i = (L.take n).take i := by rw [List.take_take]; congr 1; omega
    rw [this, h1, sv, sv, List.map_take]
  rcases h2 with ⟨h3, rfl⟩ | ⟨g, cap, cur, h3, hg, hh, hnc, hcm, hcs, ht⟩
  · -- the nil slice
    simp only [Value.slice.injEq] at h3
    obtain ⟨rfl, _, rfl⟩ := h3
    have : xs = [] := List.eq_nil_of_length_eq_zero hlen
    subst this
    obtain rfl : i = 0 := by omega
    refine (Any2.slices_Insert_string_end_grow Try.laysNm222 none 0 0 vb 0 1 1 [] [.string s] w (by omega) (by omega) (by omega) (by omega) rfl rfl (fun _ => rfl) (fun a h => by cases h) hv1 h1v).mono ?_
    rintro e w' ⟨rfl, rfl⟩
    refine ⟨_, rfl, ?_, ?_⟩
    · have hge := grownCap_ge w 1 0 9
      exact own_new w.drew base 9 1 _ _ _ hbase rfl hge (grownCap_le_maxLen _ _ _ _ (by unfold maxLen; omega)) (by
        have := zeroCells_size1 (Value.string ⟨#[]⟩) (grownCap w 1 0 9 - 1)
        have e1 : (Value.string ⟨#[]⟩).cells = #[Value.string ⟨#[]⟩] := rfl
        simp only [e1]
        show (#[Value.string s] ++ Builtin.zeroCells #[Value.string ⟨#[]⟩] (grownCap w 1 0 9 - 1)).size = grownCap w 1 0 9
        rw [Array.size_append, this]
        simp; omega) (by simp [sv])
    · exact ((Below.refl base w).drew).alloc hbase _
  · simp only [Value.slice.injEq] at h3
    obtain ⟨rfl, _, rfl⟩ := h3
    rw [Nat.mul_one] at hcs ht
    have hvg : vb ≠ g := fun e => hne g rfl e.symm
    have hsg : w.shape? g = some (9, c) := by simp [World.shape?, hh, hcs]
    have hfg : ∀ o, w.frozen? ⟨g, o, none⟩ = false := by intro o; simp [World.frozen?, hh]
    have hsome : ∀ o, o < c → (w.cell? ⟨g, 0 + o, none⟩).isSome = true := by
      intro o ho
      simp only [World.cell?, hh, Nat.zero_add]
      simp [show o < cur.size by omega]
    have hcells := hrd hh hnc hcs ht
    by_cases hroom : n < c
    · by_cases hin : i < n
      · -- room, in the middle
        refine (Any2.slices_Insert_string_shift Try.laysNm222 g 0 n c i vb 0 1 1 (sv xs) [.string s] w hin (by omega) (by omega) (by unfold maxLen at hcm; omega) hvg (by rw [sv_len]; exact hlen) rfl hcells
          (fun j hj => hsome j (by omega)) (fun j _ => hfg _) hv1 sv_one h1v 9 9 1 c hsh hsg (by omega) (hfz _) (hfz _)).mono ?_
        rintro e w' ⟨rfl, rfl⟩
        refine ⟨_, rfl, ?_, ?_⟩
        · have hh' := heap_setCells [Value.string s] (0 + i) _ _ (heap_setCells ((sv xs).drop i) (0 + (i + 1)) w.drew cur hh)
          have hdl : ((sv xs).drop i).length = n - i := by rw [List.length_drop, sv_len]; omega
          refine ⟨by simp [sv_len]; omega, .inr ⟨g, c, _, rfl, hg, hh', by omega, hcm, by rw [putA_size, putA_size]; omega, ?_⟩⟩
          rw [Nat.mul_one, putA_list _ _ _ (by rw [putA_size]; simp; omega), putA_list _ _ _ (by rw [hdl]; omega)]
          have e0 : cur.toList = sv (xs.take i) ++ (cur.toList.drop i) := by
            rw [← hfin cur.toList c ht hnc (by simpa using hcs), List.take_append_drop]
          have e1 : List.drop i (sv xs) = sv (xs.drop i) := by simp [sv, List.map_drop]
          rw [e1, Nat.zero_add, Nat.zero_add]
          conv => lhs; rw [e0]
          rw [show [Value.string s].length = 1 from rfl]
          refine (ins_list (sv (xs.take i)) (sv (xs.drop i)) (cur.toList.drop i) _ (.string s) (by simp; omega) i (n + 1) (by simp [sv_len]; omega) (by simp [sv_len]; omega)).trans ?_
          simp [sv]
        · exact ((Below.refl base w).drew).trans ((below_setCells' hg _ _ _).trans (below_setCells' hg _ _ _))
      · -- room, at the end
        obtain rfl : i = n := by omega
        refine (Any2.slices_Insert_string_end_room Try.laysNm222 g 0 i c vb 0 1 1 [.string s] w (by omega) (by omega) (by unfold maxLen at hcm; omega) rfl
          (fun j hj => by rw [Nat.add_assoc]; exact hsome _ (by omega)) (fun j _ => hfg _) hv1 h1v).mono ?_
        rintro e w' ⟨rfl, rfl⟩
        refine ⟨_, rfl, ?_, below_setCells' hg _ _ _⟩
        have hh' := heap_setCells [Value.string s] (0 + i) _ _ hh
        refine ⟨by simp [sv_len]; omega, .inr ⟨g, c, _, rfl, hg, hh', by omega, hcm, by rw [putA_size]; omega, ?_⟩⟩
        rw [Nat.mul_one, putA_list _ _ _ (by simp; omega), Nat.zero_add, ht, show [Value.string s].length = 1 from rfl]
        rw [List.take_left' (by simp [sv_len]; omega), List.take_of_length_le (by omega), List.drop_of_length_le (by omega)]
        simp [sv]
    · obtain rfl : c = n := by omega
      by_cases hin : i < c
      · refine (Any2.slices_Insert_string_grow Try.laysNm222 g 0 c c i vb 0 1 1 (sv xs) [.string s] w hin (by omega) (by omega) (by omega) (by omega) (by rw [sv_len]; exact hlen) rfl hcells hv1 sv_one h1v).mono ?_
        rintro e w' ⟨rfl, rfl⟩
        have hge : c + 1 ≤ grownCap w (c + 1) c (Try.laysNm222_ren.t 9) := grownCap_ge w (c + 1) c _
        have hle := grownCap_le_maxLen w (c + 1) c (Try.laysNm222_ren.t 9) (by unfold maxLen; omega)
        generalize hG : grownCap w (c + 1) c (Try.laysNm222_ren.t 9) = G at *
        have e9 : Try.laysNm222_ren.t 9 = 9 := rfl
        rw [e9]
        have ez : (Value.string ⟨#[]⟩).cells = #[Value.string ⟨#[]⟩] := rfl
        rw [ez]
        generalize hz1 : Builtin.zeroCells #[Value.string ⟨#[]⟩] (c + 1 - i) = z1
        generalize hz2 : Builtin.zeroCells #[Value.string ⟨#[]⟩] (G - (c + 1)) = z2
        have hs1 : z1.size = c + 1 - i := by rw [← hz1, zeroCells_size1]
        have hs2 : z2.size = G - (c + 1) := by rw [← hz2, zeroCells_size1]
        generalize harr : ((sv xs).take i).toArray ++ z1 ++ z2 = arr
        have htl : ((sv xs).take i).length = i := by simp [sv_len]; omega
        have hdl : ((sv xs).drop i).length = c - i := by simp [sv_len]; omega
        have hsz : arr.size = G := by
          rw [← harr, Array.size_append, Array.size_append, hs1, hs2, List.size_toArray, htl]; omega
        refine ⟨_, rfl, ?_, ?_⟩
        · have hh1 := heap_setCells [Value.string s] i (w.alloc (.cells arr 9)).drew arr (heap_alloc_new w _)
          have hh' := heap_setCells ((sv xs).drop i) (i + 1) (((w.alloc (.cells arr 9)).drew.setCells w.heap.size i [Value.string s]).drew) _ hh1
          refine ⟨by simp [sv_len]; omega, .inr ⟨w.heap.size, G, _, rfl, hbase, hh', hge, hle, by rw [putA_size, putA_size]; omega, ?_⟩⟩
          rw [Nat.mul_one, putA_list _ _ _ (by rw [putA_size, hdl]; omega), putA_list _ _ _ (by simp; omega)]
          have hat : arr.toList.take i = (sv xs).take i := by
            rw [← harr]
            simp only [Array.toList_append, List.append_assoc]
            rw [List.take_append_of_le_length (by omega), List.take_of_length_le (by omega)]
          rw [hat, show [Value.string s].length = 1 from rfl]
          have e1 : (((sv xs).take i ++ [Value.string s] ++ arr.toList.drop (i + 1)).take (i + 1)) = (sv xs).take i ++ [Value.string s] := List.take_left' (by rw [List.length_append, htl]; rfl)
          rw [e1]
          refine (List.take_left' ?_).trans ?_
          · rw [List.length_append, List.length_append, htl, hdl]; simp; omega
          · simp [sv, List.map_take, List.map_drop]
        · exact (((Below.refl base w).alloc hbase _).drew).trans ((below_setCells' hbase _ _ _).trans ((Below.refl _ _).drew.trans (below_setCells' hbase _ _ _)))
      · obtain rfl : i = c := by omega
        refine (Any2.slices_Insert_string_end_grow Try.laysNm222 (some ⟨g, 0, none⟩) i i vb 0 1 1 (sv xs) [.string s] w (by omega) (by omega) (by omega) (by omega) (by rw [sv_len]; exact hlen) rfl (fun h => by cases h) (fun a h => by
          cases h
          intro j v hj
          have := hcells j v hj
          rw [Nat.zero_add] at this
          rcases j with _ | j <;> simpa [Addr.add] using this) hv1 h1v).mono ?_
        rintro e w' ⟨rfl, rfl⟩
        have hge : i + 1 ≤ grownCap w (i + 1) i (Try.laysNm222_ren.t 9) := grownCap_ge w (i + 1) i _
        have hle := grownCap_le_maxLen w (i + 1) i (Try.laysNm222_ren.t 9) (by unfold maxLen; omega)
        generalize hG : grownCap w (i + 1) i (Try.laysNm222_ren.t 9) = G at *
        refine ⟨_, rfl, ?_, ((Below.refl base w).drew).alloc hbase _⟩
        have ez : (Value.string ⟨#[]⟩).cells = #[Value.string ⟨#[]⟩] := rfl
        rw [ez]
        refine own_new w.drew base 9 (i + 1) G _ _ hbase (by simp [sv_len]; omega) hge hle ?_ ?_
        · rw [Array.size_append, zeroCells_size1, List.size_toArray, List.length_append, sv_len]; simp; omega
        · rw [Array.toList_append]
          refine (List.take_left' ?_).trans ?_
          · simp [sv_len]; omega
          · rw [List.take_of_length_le (show xs.length ≤ i by omega), List.drop_of_length_le (show xs.length ≤ i by omega)]; simp [sv]

def putL (xs : List ByteArray) (s : ByteArray) : List ByteArray :=
  if okB xs = true then (if hasB xs s = true then xs else if xs.length = 4096 then [] else xs.take (before xs s) ++ s :: xs.drop (before xs s)) else []
def putC (xs : List ByteArray) (s : ByteArray) : Int :=
  if okB xs = true then (if hasB xs s = true then 0 else if xs.length = 4096 then 9 else 0) else 8
def PutPost (w : World) (xs : List ByteArray) (s : ByteArray) (e : Ending) (w' : World) : Prop :=
  ∃ v, e = .returned (.tuple #[v, .int .i64 (putC xs s)]) ∧ w'.ownsRow w.heap.size 9 1 v (putL xs s).length (sv (putL xs s)) ∧ Below w.heap.size w w'
theorem PutPost.mk {w w' : World} {xs L : List ByteArray} {s : ByteArray} {v : Value} {c : Int} (h1 : putL xs s = L) (h2 : putC xs s = c) (h3 : w'.ownsRow w.heap.size 9 1 v L.length (sv L)) (h4 : Below w.heap.size w w') :
    PutPost w xs s (.returned (.tuple #[v, .int .i64 c])) w' := ⟨v, by rw [h2], by rw [h1]; exact h3, h4⟩
theorem own_nil (w : World) (base : Nat) : w.ownsRow base 9 1 (.slice none 0 0) ([] : List ByteArray).length (sv []) := ⟨rfl, .inl ⟨rfl, rfl⟩⟩

set_option maxHeartbeats 2000000 in
theorem put_any (A : Option Addr) (c : Nat) (xs : List ByteArray) (s : ByteArray) (w : World) {E : Nat} (hx : Rd w E A (sv xs)) (hn : xs.length ≤ maxLen) :
    Calls Try.prog 13 #[.slice A xs.length c, .string s] w (PutPost w xs s) := by
  by_cases ho : okB xs = true
  · have hn' := okB_len ho
    have hbl := before_le xs s
    have HO := Lib.hid ho
    clear ho
    by_cases hh : hasB xs s = true
    · have HH := Lib.hid hh
      clear hh
      go_enter Try.func13, Try.ntmps13
      go_wp2_with fail
      refine (check_any A c xs _ hx hn).mono ?_
      rintro e w' ⟨rfl, n, rfl⟩
      rw [HO.out, show code true = 0 from rfl]
      go_wp2_with fail
      refine (find_yes A c xs s _ (hx.drewN _) HO.out).mono ?_
      rintro e w' ⟨rfl, n2, rfl⟩
      rw [HH.out]
      go_wp2_with fail
      refine (clone_any A c xs _ (hx.drewN _) (by omega)).mono ?_
      rintro e w1 ⟨v, rfl, hown, hb⟩
      go_wp2
      go_ret2
      exact PutPost.mk (by unfold putL; rw [if_pos HO.out, if_pos HH.out]) (by unfold putC; rw [if_pos HO.out, if_pos HH.out]) hown ((Below.of_drewN _ _ _).trans hb)
    · have hh' : hasB xs s = false := by simpa using hh
      have HH := Lib.hid hh'
      clear hh hh'
      by_cases hfull : xs.length = 4096
      · have hf : ((xs.length : Int) == 4096) = true := by simp [hfull]
        have HF := Lib.hid hfull
        clear hfull
        go_enter Try.func13, Try.ntmps13
        go_wp2_with fail
        refine (check_any A c xs _ hx hn).mono ?_
        rintro e w' ⟨rfl, n, rfl⟩
        rw [HO.out, show code true = 0 from rfl]
        go_wp2_with fail
        refine (find_yes A c xs s _ (hx.drewN _) HO.out).mono ?_
        rintro e w' ⟨rfl, n2, rfl⟩
        rw [HH.out]
        go_wp2
        go_ret2
        exact PutPost.mk (L := []) (by unfold putL; rw [if_pos HO.out, if_neg (by rw [HH.out]; simp), if_pos HF.out]) (by unfold putC; rw [if_pos HO.out, if_neg (by rw [HH.out]; simp), if_pos HF.out]) (own_nil _ _) (Below.of_drewN _ _ _)
      · have hf : ((xs.length : Int) == 4096) = false := by rw [beq_eq_false_iff_ne]; omega
        have HF := Lib.hid hfull
        clear hfull
        go_enter Try.func13, Try.ntmps13
        go_wp2_with fail
        refine (check_any A c xs _ hx hn).mono ?_
        rintro e w' ⟨rfl, n, rfl⟩
        rw [HO.out, show code true = 0 from rfl]
        go_wp2_with fail
        refine (find_yes A c xs s _ (hx.drewN _) HO.out).mono ?_
        rintro e w' ⟨rfl, n2, rfl⟩
        rw [HH.out]
        go_wp2_with fail
        refine (clone_any A c xs _ (hx.drewN _) (by omega)).mono ?_
        rintro e w1 ⟨v, rfl, hown, hb⟩
        obtain ⟨A', c', rfl, hc1, hc2⟩ := own_slice hown
        have hsz := hb.size
        have hlt := own_lt hown
        simp only [World.heap_drewN] at hsz hown hb
        generalize hk : before xs s = k at *
        have HK := Lib.hid hk
        clear hk
        go_wp2_with fail
        refine (insert_own (w1.alloc (.cells #[.string s] 9)) w.heap.size xs.length c' k w1.heap.size A' xs s (hown.alloc _) hbl hn' (heap_alloc_new _ _) (fun g hg => by
          have := hlt g (by rw [hg]; rfl)
          omega) (by simp; omega)).mono ?_
        rintro e w2 ⟨v, rfl, hown2, hb2⟩
        go_wp2
        go_ret2
        exact PutPost.mk (L := xs.take k ++ s :: xs.drop k) (by unfold putL; rw [if_pos HO.out, if_neg (by rw [HH.out]; simp), if_neg HF.out, HK.out]) (by unfold putC; rw [if_pos HO.out, if_neg (by rw [HH.out]; simp), if_neg HF.out])
          (by
            have e : (xs.take k ++ s :: xs.drop k).length = xs.length + 1 := by simp; omega
            rw [e]; exact hown2)
          ((Below.of_drewN _ _ _).trans ((hb.alloc hsz _).trans hb2))
  · have ho' : okB xs = false := by simpa using ho
    have HO := Lib.hid ho'
    clear ho ho'
    go_enter Try.func13, Try.ntmps13
    go_wp2_with fail
    refine (check_any A c xs _ hx hn).mono ?_
    rintro e w' ⟨rfl, n, rfl⟩
    rw [HO.out, show code false = 8 from rfl]
    go_wp2
    go_ret2
    exact PutPost.mk (L := []) (by unfold putL; rw [if_neg (by rw [HO.out]; simp)]) (by unfold putC; rw [if_neg (by rw [HO.out]; simp)]) (own_nil _ _) (Below.of_drewN _ _ _)
end Go.Proofs.Ytgicbpoicejmbaa
