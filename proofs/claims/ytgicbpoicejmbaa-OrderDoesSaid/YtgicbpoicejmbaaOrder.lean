/- Contracts of package order's functions and of the reference's that only read. Conditions: lengths within the model's. -/
import Derived.Test.YtgicbpoicejmbaaBytes
namespace Go.Proofs.Ytgicbpoicejmbaa
open Go.RowKit

theorem take_eq {xs ys : List ByteArray} {k : Nat} (h1 : k < xs.length) (h2 : k < ys.length) (h : xs.take k = ys.take k) (he : xs[k] = ys[k]) : xs.take (k + 1) = ys.take (k + 1) := by
  rw [List.take_succ_eq_append_getElem h1, List.take_succ_eq_append_getElem h2, h, he]

set_option maxHeartbeats 1000000 in
theorem same_any (A B : Option Addr) (c d : Nat) (xs ys : List ByteArray) (w : World) {E : Nat} (hx : Rd w E A (sv xs)) {F : Nat} (hy : Rd w F B (sv ys)) (hn : xs.length ≤ maxLen) :
    Calls Try.prog 17 #[.slice A xs.length c, .slice B ys.length d] w fun e w' => e = .returned (.bool (decide (xs = ys))) ∧ ∃ n, w' = w.drewN n := by
  unfold maxLen at hn
  by_cases hl : xs.length = ys.length
  · have h1 : ((xs.length : Int) != ys.length) = false := by simp [hl]
    have HL := Lib.hid hl
    clear hl
    go_enter Try.func17, Try.ntmps17
    go_wp2
    clear h1
    go_loopw [5] (fun i wr => ∃ k q : Nat, k ≤ xs.length ∧ i = .int .i64 k ∧ xs.take k = ys.take k ∧ wr = w.drewN q) (fun i _ => xs.length - (intOf i).toNat)
    case atStart => exact ⟨0, 0, Nat.zero_le _, rfl, rfl, rfl⟩
    case round =>
      obtain ⟨k, q, hk, rfl, he, rfl⟩ := hrel
      have HE := Lib.hid he
      clear he
      by_cases hlt : k < xs.length
      · have hlt2 : k < ys.length := by have := HL.out; omega
        obtain ⟨b, off, rfl, hb, hc⟩ := hx.str hlt
        obtain ⟨b2, off2, rfl, hb2, hc2⟩ := hy.str hlt2
        have c1 := hc k hlt
        have c2 := hc2 k hlt2
        clear hc hc2 hx hy
        go_wp2
        go_quiet (fail)
        go_wp2
        · have h1 : (!xs[k].toList == ys[k].toList) = true := by assumption
          go_ret
          refine ⟨ret_bool ?_, ex_drew⟩
          rw [eq_comm, decide_eq_false_iff_not]
          intro e
          rw [ba_beq] at h1
          simp [e] at h1
        · have h1 : (!xs[k].toList == ys[k].toList) = false := by assumption
          rw [ba_beq] at h1
          exact ⟨⟨k + 1, _, hlt, by go_num, take_eq hlt hlt2 HE.out (by simpa using h1), rfl⟩, by simp [intOf]; omega⟩
      · have hk' : k = xs.length := by omega
        have HS : Hid (decide (xs = ys) = true) := by
          have he := HE.out
          rw [List.take_of_length_le (by omega), List.take_of_length_le (by rw [← HL.out]; omega)] at he
          exact decide_eq_true he
        clear hk'
        go_wp2
        go_ret
        exact ⟨ret_bool HS.out.symm, ex_drew0⟩
  · have h1 : ((xs.length : Int) != ys.length) = true := by rw [bne_iff_ne]; omega
    have HS : Hid (decide (xs = ys) = false) := decide_eq_false (fun e => hl (by rw [e]))
    clear hl
    go_enter Try.func17, Try.ntmps17
    go_wp2
    go_ret
    exact ⟨ret_bool HS.out.symm, ex_same⟩

/-- a list rises -/
def rises (xs : List ByteArray) : Bool := (List.range (xs.length - 1)).all fun i => match xs[i]?, xs[i + 1]? with | some a, some b => slt a b | _, _ => true
def okB (xs : List ByteArray) : Bool := decide (xs.length ≤ 4096) && rises xs
theorem rises_iff (xs : List ByteArray) : rises xs = true ↔ ∀ (i : Nat) (h : i + 1 < xs.length), slt xs[i] xs[i + 1] = true := by
  unfold rises
  rw [List.all_eq_true]
  constructor
  · intro h i hi
    have := h i (List.mem_range.2 (by omega))
    rw [List.getElem?_eq_getElem (show i < xs.length by omega), List.getElem?_eq_getElem hi] at this
    exact this
  · intro h i hi
    rw [List.mem_range] at hi
    rw [List.getElem?_eq_getElem (show i < xs.length by omega), List.getElem?_eq_getElem (show i + 1 < xs.length by omega)]
    exact h i (by omega)
theorem okB_many {xs : List ByteArray} (h : 4096 < xs.length) : okB xs = false := by
  unfold okB
  rw [decide_eq_false (by omega)]; rfl
theorem okB_not {xs : List ByteArray} {k : Nat} (h : k + 1 < xs.length) (h1 : slt xs[k] xs[k + 1] = false) : okB xs = false := by
  unfold okB
  have : rises xs = false := by
    rw [Bool.eq_false_iff]
    intro e
    rw [(rises_iff xs).1 e k h] at h1
    cases h1
  rw [this, Bool.and_false]
theorem okB_yes {xs : List ByteArray} (h : xs.length ≤ 4096) (h1 : ∀ (i : Nat) (hi : i + 1 < xs.length), slt xs[i] xs[i + 1] = true) : okB xs = true := by
  unfold okB
  rw [decide_eq_true h, (rises_iff xs).2 h1]; rfl
def code (ok : Bool) : Int := if ok then 0 else 8

set_option maxHeartbeats 1000000 in
theorem check_any (A : Option Addr) (c : Nat) (xs : List ByteArray) (w : World) {E : Nat} (hx : Rd w E A (sv xs)) (hn : xs.length ≤ maxLen) :
    Calls Try.prog 14 #[.slice A xs.length c] w fun e w' => e = .returned (.int .i64 (code (okB xs))) ∧ ∃ n, w' = w.drewN n := by
  unfold maxLen at hn
  by_cases hm : 4096 < xs.length
  · have HS : Hid (code (okB xs) = 8) := by unfold Hid; rw [okB_many hm]; rfl
    go_enter Try.func14, Try.ntmps14
    go_wp2
    go_ret
    exact ⟨ret_int HS.out.symm, ex_same⟩
  · go_enter Try.func14, Try.ntmps14
    go_wp2
    go_loopw [9] (fun i wr => ∃ k q : Nat, k ≤ xs.length ∧ i = .int .i64 k ∧ (∀ (i : Nat) (hi : i + 1 < xs.length), i + 1 < k → slt xs[i] xs[i + 1] = true) ∧ wr = w.drewN q) (fun i _ => xs.length - (intOf i).toNat)
    case atStart => exact ⟨0, 0, Nat.zero_le _, rfl, fun _ _ h => by omega, rfl⟩
    case round =>
      obtain ⟨k, q, hk, rfl, he, rfl⟩ := hrel
      have HE := Lib.hid he
      clear he
      by_cases hlt : k < xs.length
      · obtain ⟨b, off, rfl, hb, hc⟩ := hx.str hlt
        by_cases h0 : k = 0
        · subst h0
          have hd : decide ((0 : Int) < 0) = false := by simp
          clear hc hx
          go_wp2
          go_quiet (fail)
          go_wp2
          exact ⟨⟨1, _, hlt, by simp, fun _ _ h => by omega, rfl⟩, by simp [intOf]; omega⟩
        · obtain ⟨m, rfl⟩ : ∃ m, k = m + 1 := ⟨k - 1, by omega⟩
          have c1 := hc m (by omega)
          have c2 := hc (m + 1) hlt
          clear hc hx
          go_wp2
          go_quiet (fail)
          go_wp2
          · have h1 : (!Op.bytesLess xs[m].toList xs[m + 1].toList) = true := by assumption
            go_ret
            refine ⟨ret_int ?_, ex_drew⟩
            rw [okB_not hlt (show Op.bytesLess xs[m].toList xs[m + 1].toList = false by simpa using h1)]; rfl
          · have h1 : (!Op.bytesLess xs[m].toList xs[m + 1].toList) = false := by assumption
            refine ⟨⟨m + 2, _, hlt, by go_num, fun i hi h => ?_, rfl⟩, by simp [intOf]; omega⟩
            by_cases e : i = m
            · subst e
              show Op.bytesLess _ _ = true
              simpa using h1
            · exact HE.out i hi (by omega)
      · have HS : Hid (code (okB xs) = 0) := by
          unfold Hid
          rw [okB_yes (by omega) (fun i hi => HE.out i hi (by omega))]; rfl
        go_wp2
        go_ret
        exact ⟨ret_int HS.out.symm, ex_drew0⟩

/-- how many of a list are ahead of a string -/
def before (xs : List ByteArray) (s : ByteArray) : Nat := (xs.takeWhile (fun x => slt x s)).length

theorem rises_lt {xs : List ByteArray} (hr : rises xs = true) : ∀ (j i : Nat) (hj : j < xs.length) (hij : i < j), slt (xs[i]'(by omega)) xs[j] = true := by
  intro j
  induction j with
  | zero => intro i hj hij; omega
  | succ j ih =>
    intro i hj hij
    have h1 := (rises_iff xs).1 hr j hj
    by_cases e : i = j
    · subst e; exact h1
    · exact slt_trans _ _ _ (ih i (by omega) (by omega)) h1
theorem before_le (xs : List ByteArray) (s : ByteArray) : before xs s ≤ xs.length := List.IsPrefix.length_le (List.takeWhile_prefix _)
theorem before_eq {xs : List ByteArray} {s : ByteArray} {k : Nat} (hk : k ≤ xs.length) (h1 : ∀ (j : Nat) (h : j < k), slt (xs[j]'(by omega)) s = true) (h2 : ∀ h : k < xs.length, slt xs[k] s = false) : before xs s = k := by
  unfold before
  have e : xs = xs.take k ++ xs.drop k := (List.take_append_drop _ _).symm
  have h3 : ∀ x ∈ xs.take k, (fun x => slt x s) x = true := by
    intro x hx
    obtain ⟨j, hj, rfl⟩ := List.mem_take_iff_getElem.1 hx
    exact h1 j (by omega)
  rw [e, List.takeWhile_append_of_pos h3]
  have h4 : (xs.drop k).takeWhile (fun x => slt x s) = [] := by
    by_cases hk2 : k < xs.length
    · rw [List.drop_eq_getElem_cons hk2, List.takeWhile_cons, h2 hk2]; rfl
    · rw [List.drop_of_length_le (by omega)]; rfl
  rw [h4, List.append_nil, List.length_take]
  omega

def SInv (xs : List ByteArray) (s : ByteArray) (lo hi : Nat) : Prop :=
  lo ≤ hi ∧ hi ≤ xs.length ∧ (∀ (j : Nat) (h : j < xs.length), j < lo → slt xs[j] s = true) ∧ (∀ (j : Nat) (h : j < xs.length), hi ≤ j → slt xs[j] s = false)
theorem SInv.up {xs : List ByteArray} {s : ByteArray} {lo hi m : Nat} (h : SInv xs s lo hi) (hr : rises xs = true) (h1 : lo ≤ m) (h2 : m < hi) (hm : m < xs.length) (ht : slt xs[m] s = true) : SInv xs s (m + 1) hi :=
  ⟨by omega, h.2.1, fun j hj hlt => by
    by_cases e : j = m
    · subst e; exact ht
    · exact slt_trans _ _ _ (rises_lt hr m j hm (by omega)) ht, h.2.2.2⟩
theorem SInv.down {xs : List ByteArray} {s : ByteArray} {lo hi m : Nat} (h : SInv xs s lo hi) (hr : rises xs = true) (h1 : lo ≤ m) (h2 : m < hi) (hm : m < xs.length) (ht : slt xs[m] s = false) : SInv xs s lo m :=
  ⟨h1, by have := h.2.1; omega, h.2.2.1, fun j hj hge => by
    by_cases e : j = m
    · subst e; exact ht
    · rw [Bool.eq_false_iff]
      intro e2
      have := slt_trans _ _ _ (rises_lt hr j m hj (by omega)) e2
      rw [this] at ht; cases ht⟩
theorem SInv.done {xs : List ByteArray} {s : ByteArray} {lo hi : Nat} (h : SInv xs s lo hi) (he : ¬ lo < hi) : before xs s = lo := by
  obtain ⟨h1, h2, h3, h4⟩ := h
  exact before_eq (by omega) (fun j hj => h3 j (by omega) hj) (fun hl => h4 lo hl (by omega))

set_option maxHeartbeats 2000000 in
set_option maxRecDepth 1000000 in
theorem search_any (A : Option Addr) (c : Nat) (xs : List ByteArray) (s : ByteArray) (w : World) {E : Nat} (hx : Rd w E A (sv xs)) (hn : xs.length ≤ 4096) (hr : rises xs = true) :
    Calls Try.prog 30 #[.slice A xs.length c, .string s] w fun e w' => e = .returned (.int .i64 (before xs s : Nat)) ∧ w = w' := by
  have HR := Lib.hid hr
  clear hr
  have pass : ∀ (lo hi : Nat) (hi0 : SInv xs s lo hi), True := fun _ _ _ => trivial
  clear pass
  go_enter Try.func30, Try.ntmps30
  go_wp2
  refine wp_scope_jumps 0 (fun a' w' => w = w' ∧ ∃ (lo hi : Nat) (u7 u8 u9 u10 u11 u12 u13 u14 u15 u16 u17 u18 u19 u20 u21 u22 u23 u24 u25 u26 : Value), a' = { tmps := #[.slice A xs.length c, .string s, undef, undef, .int .i64 0, .int .i64 lo, .int .i64 hi, u7, u8, u9, u10, u11, u12, u13, u14, u15, u16, u17, u18, u19, u20, u21, u22, u23, u24, u25, u26], defers := [] } ∧ SInv xs s lo hi) (fun a' _ => (intOf (a'.tmps.getD 6 undef)).toNat - (intOf (a'.tmps.getD 5 undef)).toNat) rfl ?_ ?_
  · have HI : Hid (SInv xs s 0 xs.length) := ⟨Nat.zero_le _, Nat.le_refl _, fun j _ h => by omega, fun j h h' => by omega⟩
    by_cases hlt : 0 < xs.length
    · have hm : xs.length / 2 < xs.length := by omega
      obtain ⟨b, off, rfl, hb, hc⟩ := hx.str hm
      have c1 := hc _ hm
      clear hc hx
      go_wp2
      go_step3
      go_wp2
      · have ht : slt xs[xs.length / 2] s = true := by assumption
        go_step3
        exact ⟨rfl, rfl, xs.length / 2 + 1, xs.length, _, _, _, _, _, _, _, _, _, _, _, _, _, _, _, _, _, _, _, _, rfl, HI.out.up HR.out (by omega) (by omega) hm ht⟩
      · have ht : slt xs[xs.length / 2] s = false := by assumption
        go_step3
        exact ⟨rfl, rfl, 0, xs.length / 2, _, _, _, _, _, _, _, _, _, _, _, _, _, _, _, _, _, _, _, _, rfl, HI.out.down HR.out (by omega) (by omega) hm ht⟩
    · have HD := Lib.hid (HI.out.done (by omega))
      go_wp2
      go_step3
      go_wp2
      simp only [Exit.jump]
      go_ret
      exact ⟨ret_int (by rw [HD.out]; rfl), rfl⟩
  · rintro a' w' ⟨rfl, lo, hi, u7, u8, u9, u10, u11, u12, u13, u14, u15, u16, u17, u18, u19, u20, u21, u22, u23, u24, u25, u26, rfl, hinv⟩
    have HI := Lib.hid hinv
    have hlh := hinv.1
    have hhn := hinv.2.1
    clear hinv
    by_cases hlt : lo < hi
    · have hm : (lo + hi) / 2 < xs.length := by omega
      obtain ⟨b, off, rfl, hb, hc⟩ := hx.str hm
      have c1 := hc _ hm
      clear hc hx
      go_wp2
      · have ht : slt xs[(lo + hi) / 2] s = true := by assumption
        go_step3
        refine ⟨rfl, ⟨rfl, (lo + hi) / 2 + 1, hi, _, _, _, _, _, _, _, _, _, _, _, _, _, _, _, _, _, _, _, _, rfl, HI.out.up HR.out (by omega) (by omega) hm ht⟩, ?_⟩
        simp [intOf]; omega
      · have ht : slt xs[(lo + hi) / 2] s = false := by assumption
        go_step3
        refine ⟨rfl, ⟨rfl, lo, (lo + hi) / 2, _, _, _, _, _, _, _, _, _, _, _, _, _, _, _, _, _, _, _, _, rfl, HI.out.down HR.out (by omega) (by omega) hm ht⟩, ?_⟩
        simp [intOf]; omega
    · have HD := Lib.hid (HI.out.done hlt)
      go_wp2
      simp only [Exit.jump]
      go_ret
      exact ⟨ret_int (by rw [HD.out]), rfl⟩

def hasB (xs : List ByteArray) (s : ByteArray) : Bool := match xs[before xs s]? with | some x => decide (x = s) | none => false
theorem hasB_end {xs : List ByteArray} {s : ByteArray} (h : ¬ before xs s < xs.length) : hasB xs s = false := by
  unfold hasB
  rw [List.getElem?_eq_none (by omega)]
theorem hasB_at {xs : List ByteArray} {s : ByteArray} (h : before xs s < xs.length) : hasB xs s = decide (xs[before xs s] = s) := by
  unfold hasB
  rw [List.getElem?_eq_getElem h]
theorem okB_len {xs : List ByteArray} (h : okB xs = true) : xs.length ≤ 4096 := by
  unfold okB at h
  simp at h
  exact h.1
theorem okB_rises {xs : List ByteArray} (h : okB xs = true) : rises xs = true := by
  unfold okB at h
  simp at h
  exact h.2

set_option maxHeartbeats 1000000 in
theorem find_no (A : Option Addr) (c : Nat) (xs : List ByteArray) (s : ByteArray) (w : World) {E : Nat} (hx : Rd w E A (sv xs)) (hn : xs.length ≤ maxLen) (ho : okB xs = false) :
    Calls Try.prog 15 #[.slice A xs.length c, .string s] w fun e w' => e = .returned (.tuple #[.int .i64 0, .bool false]) ∧ ∃ n, w' = w.drewN n := by
  have HO := Lib.hid ho
  clear ho
  go_enter Try.func15, Try.ntmps15
  go_wp2_with fail
  refine (check_any A c xs _ hx hn).mono ?_
  rintro e w' ⟨rfl, n, rfl⟩
  rw [HO.out, show code false = 8 from rfl]
  go_wp2
  go_ret2
  exact ⟨rfl, ex_drew0⟩

set_option maxHeartbeats 1000000 in
theorem find_yes (A : Option Addr) (c : Nat) (xs : List ByteArray) (s : ByteArray) (w : World) {E : Nat} (hx : Rd w E A (sv xs)) (ho : okB xs = true) :
    Calls Try.prog 15 #[.slice A xs.length c, .string s] w fun e w' => e = .returned (.tuple #[.int .i64 (before xs s : Nat), .bool (hasB xs s)]) ∧ ∃ n, w' = w.drewN n := by
  have hn : xs.length ≤ maxLen := by have := okB_len ho; unfold maxLen; omega
  have HO := Lib.hid ho
  clear ho
  have HB := before_le xs s
  go_enter Try.func15, Try.ntmps15
  go_wp2_with fail
  refine (check_any A c xs _ hx hn).mono ?_
  rintro e w' ⟨rfl, n, rfl⟩
  rw [HO.out, show code true = 0 from rfl]
  unfold maxLen at hn
  go_wp2_with fail
  refine (search_any A c xs s _ (hx.drewN n) (okB_len HO.out) (okB_rises HO.out)).mono ?_
  rintro e w' ⟨rfl, rfl⟩
  by_cases hb : before xs s < xs.length
  · have HH := Lib.hid (hasB_at hb)
    obtain ⟨b, off, rfl, hbb, hc⟩ := hx.str hb
    have c1 := hc _ hb
    clear hc hx
    generalize hk : before xs s = k at *
    have HK := Lib.hid hk
    clear hk
    go_wp2
    go_quiet (fail)
    go_wp2
    go_ret2
    refine ⟨?_, ex_drew⟩
    rw [HH.out, HK.out]
    exact ret_v (by simp [ba_beq])
  · have HH := Lib.hid (hasB_end hb)
    clear hx
    generalize hk : before xs s = k at *
    have HK := Lib.hid hk
    clear hk
    have hd : decide ((k : Int) < xs.length) = false := by simpa using hb
    go_wp2
    go_quiet (fail)
    go_wp2
    go_ret2
    refine ⟨?_, ex_drew⟩
    rw [HH.out, HK.out]
    exact ret_v rfl
end Go.Proofs.Ytgicbpoicejmbaa
