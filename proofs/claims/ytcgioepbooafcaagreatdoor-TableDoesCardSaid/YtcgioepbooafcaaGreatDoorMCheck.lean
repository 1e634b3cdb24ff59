/- Whether a table's uniques are told once; whether its ids rise. Conditions: lengths within the model's; Go's two tables of utf8. Whether a table's ids rise; where an id is, or would be. Conditions: lengths within the model's; Go's two tables of utf8. table.Check: whether a table may be. Conditions: lengths within the model's; Go's two tables of utf8. -/
import Derived.Test.YtcgioepbooafcaaGreatDoorMFind
import Derived.Maps.Views
namespace Go.Proofs.YtcgioepbooafcaaGreatDoor
section
open Go.RowKit Go.Maps Go.WideMaps
def keyB (s : ByteArray) : Lit := .string s.data.toList
def memB (acc : List ByteArray) (x : ByteArray) : Bool := acc.any fun y => decide (y = x)
theorem memB_iff {acc : List ByteArray} {x : ByteArray} : memB acc x = true ↔ x ∈ acc := by
  unfold memB
  simp
def addB (acc : List ByteArray) (x : ByteArray) : List ByteArray := if memB acc x = true then acc else acc ++ [x]
theorem key_inj {a b : ByteArray} (h : keyB a = keyB b) : a = b := by
  simp only [keyB, Lit.string.injEq] at h
  exact ba_ext (by rw [Lib.toList_data, Lib.toList_data]; exact h)
theorem key_lit (s : ByteArray) : WideAt.IsKeyLit (keyB s) := trivial
theorem any_key (acc : List ByteArray) (x : ByteArray) : (acc.map keyB).any (fun y => y.sameKey (keyB x)) = memB acc x := by
  induction acc with
  | nil => rfl
  | cons a r ih =>
    rw [List.map_cons, List.any_cons, ih]
    by_cases h : a = x
    · subst h
      rw [WideAt.sameKey_self (key_lit a)]
      simp [memB]
    · rw [sameKey_ne (fun e => h (key_inj e))]
      simp [memB, h]
theorem addKey_key (acc : List ByteArray) (x : ByteArray) : addKey (acc.map keyB) (keyB x) = (addB acc x).map keyB := by
  unfold addKey addB
  rw [any_key]
  split <;> simp
theorem fold_key : ∀ (us acc : List ByteArray), (us.map keyB).foldl addKey (acc.map keyB) = (us.foldl addB acc).map keyB
  | [], acc => rfl
  | x :: r, acc => by
    rw [List.map_cons, List.foldl_cons, addKey_key, fold_key r, List.foldl_cons]
theorem fold_le : ∀ (us acc : List ByteArray), (us.foldl addB acc).length ≤ acc.length + us.length
  | [], acc => by simp
  | x :: r, acc => by
    rw [List.foldl_cons]
    refine Nat.le_trans (fold_le r (addB acc x)) ?_
    unfold addB
    split <;> simp <;> omega
theorem fold_eq : ∀ (us acc : List ByteArray), (us.foldl addB acc).length = acc.length + us.length ↔ us.Nodup ∧ ∀ x ∈ us, x ∉ acc
  | [], acc => by simp
  | x :: r, acc => by
    rw [List.foldl_cons]
    by_cases h : x ∈ acc
    · have e : addB acc x = acc := by unfold addB; rw [if_pos (memB_iff.2 h)]
      have := fold_le r acc
      rw [e]
      constructor
      · intro g
        rw [List.length_cons] at g
        omega
      · intro g
        exact absurd h (g.2 x (by simp))
    · have e : addB acc x = acc ++ [x] := by unfold addB; rw [if_neg (fun g => h (memB_iff.1 g))]
      have ih := fold_eq r (acc ++ [x])
      rw [List.length_append, List.length_singleton] at ih
      rw [e, List.length_cons, List.nodup_cons, show acc.length + (r.length + 1) = acc.length + 1 + r.length by omega, ih]
      constructor
      · rintro ⟨g1, g2⟩
        refine ⟨⟨fun hx => (g2 x hx) (by simp), g1⟩, fun y hy => ?_⟩
        rcases List.mem_cons.1 hy with rfl | hy
        · exact h
        · exact fun hm => g2 y hy (by simp [hm])
      · rintro ⟨⟨g1, g2⟩, g3⟩
        refine ⟨g2, fun y hy hm => ?_⟩
        rcases List.mem_append.1 hm with hm | hm
        · exact g3 y (by simp [hy]) hm
        · rw [List.mem_singleton] at hm
          rw [hm] at hy
          exact g1 hy
def oneL : DataW Unit := .lit (.int .i64 1)
def setB (us : List ByteArray) : DataW Unit := setOf oneL (us.map keyB)
theorem size_setB (us : List ByteArray) : ((size (setB us) : Int) == (us.length : Int)) = decide us.Nodup := by
  have h1 : size (setB us) = (us.foldl addB []).length := by
    unfold setB
    rw [size_setOf _ _ (fun x hx => by obtain ⟨s, _, rfl⟩ := List.mem_map.1 hx; exact key_lit s)]
    have := fold_key us []
    rw [List.map_nil] at this
    rw [this, List.length_map]
  have h2 := fold_eq us []
  rw [List.length_nil, Nat.zero_add] at h2
  rw [Bool.eq_iff_iff, beq_iff_eq, decide_eq_true_iff, h1]
  constructor
  · intro h
    exact (h2.1 (by omega)).1
  · intro h
    have := h2.2 ⟨h, fun x _ => by simp⟩
    omega
set_option maxHeartbeats 4000000 in
theorem once_any (t : TabC) (bk : Nat) (Au : Option Addr) (cu : Nat) (Ar : Option Addr) (cr : Nat) (w : World) {B : Nat} (hb : BookIn w t bk Au cu Ar cr B) (hz : ∀ s ∈ t.us, s.size ≤ maxLen) :
    Calls Tryz.prog 40 #[.pointer (some ⟨bk, 0, none⟩)] w fun e w' => e = .returned (.bool (decide t.us.Nodup)) ∧ Below w.heap.size w w' := by
  obtain ⟨m, hm⟩ : ∃ m, t.us.length = m := ⟨_, rfl⟩
  have hmm := @run_makeMap Tryz.prog
  obtain ⟨V, hV⟩ : ∃ V, decide t.us.Nodup = V := ⟨_, rfl⟩
  rw [hV]
  have hsz := size_setB t.us
  rw [hV, hm] at hsz
  have HSZ := Lib.hid hsz
  have hul := hb.tab.ul
  have hlt := hb.lt
  have c2 := hb.c2
  rw [hm] at c2 hul
  have HH := Lib.hid (And.intro hb (And.intro hz hm))
  have HC2 := Lib.hid c2
  clear hsz hb hz hV hm
  go_enter Tryz.func40, Tryz.ntmps40
  go_wp2
  clear hmm c2
  go_loopw [13] (fun vi wr => ∃ k : Nat, k ≤ m ∧ vi = .int .i64 k ∧ wr.ownsMap Tryz.prog 9 (plainElem Tryz.prog 3) w.heap.size k (setB (t.us.take k)) ∧ Below w.heap.size w wr) (fun vi _ => m - (intOf vi).toNat)
  case atStart => exact ⟨0, Nat.zero_le _, rfl, World.ownsMap_made _ _ _ _, (Below.refl _ _).alloc (Nat.le_refl _) _⟩
  case round =>
    obtain ⟨k, hk, rfl, hown, hbr⟩ := hrel
    obtain ⟨hb, hz, hm⟩ := HH.out
    by_cases hlt' : k < m
    · have hku : k < t.us.length := by omega
      obtain ⟨b, off, e, hbb, hc⟩ := (hb.tab.us.thru hbr hb.tab.le).at' (k := k) (by rw [sv_len]; exact hku)
      have hck := hc k (by rw [sv_len]; exact hku)
      simp only [sv, List.getElem_map] at hck
      subst e
      obtain ⟨w6, hput, hown6, hg6⟩ := hown.update str_law Tryz.underlying87 (by unfold maxLen; omega) (keyOf_string_mk Tryz.underlying9 (hz _ (List.getElem_mem hku))) (plainElem_int Tryz.underlying3 (a := 1) (by decide))
      have hset : setB (t.us.take (k + 1)) = (setB (t.us.take k)).put (keyB t.us[k]) oneL := by
        unfold setB
        rw [List.take_succ_eq_append_getElem hku, List.map_append]
        exact setOf_snoc _ _ _
      obtain ⟨s, hs⟩ : ∃ s, t.us[k] = s := ⟨_, rfl⟩
      rw [hs] at hck hput
      have hkI : (k : Int) < m := by omega
      have HS := Lib.hid (And.intro hs hset)
      have HO := Lib.hid hown6
      have hb6 : Below w.heap.size w w6 := hbr.grown hg6 hbr.size (fun k hk => by cases hk; exact Nat.le_refl _)
      clear hc hown hb hz hm hs hset hown6 hg6
      go_wp2
      go_roundw
      case rel =>
        refine ⟨k + 1, hlt', by go_num, ?_, hb6⟩
        rw [HS.out.2]
        exact HO.out
      case measure => simp [intOf]; omega
    · obtain rfl : m = k := by omega
      have hltd : decide ((m : Int) < m) = false := by simp
      rw [List.take_of_length_le (by omega)] at hown
      have hown' : wr.drew.ownsMap Tryz.prog 9 (plainElem Tryz.prog 3) w.heap.size m (setB t.us) := hown
      have hlen := fun ty => hown'.len Tryz.underlying87 ty
      have hcc := (hbr.cell (p := ⟨bk, 2, none⟩) hlt).trans HC2.out
      have hsz := HSZ.out
      obtain ⟨z, hz'⟩ : ∃ z, size (setB t.us) = z := ⟨_, rfl⟩
      rw [hz'] at hlen hsz
      clear hown hown' hb hz hm hz'
      go_wp2
      go_region
      all_goals
        go_wp2
        go_ret
        exact ⟨rfl, hbr.drew⟩
end
section
open Go.RowKit
def idsL (rs : List RecC) : List ByteArray := rs.map fun r => r.id
theorem idsL_len (rs : List RecC) : (idsL rs).length = rs.length := by simp [idsL]
theorem idsL_get {rs : List RecC} {k : Nat} (h : k < (idsL rs).length) (h' : k < rs.length) : (idsL rs)[k] = rs[k].id := by simp [idsL]
theorem scmp_lt (a b : ByteArray) : decide (scmp a b < 0) = slt a b := by
  unfold scmp
  cases h : slt a b with
  | true => simp
  | false =>
    cases g : slt b a with
    | true => simp
    | false => simp
theorem scmp_eq (a b : ByteArray) : (scmp a b == 0) = decide (a = b) := by
  unfold scmp
  cases h : slt a b with
  | true =>
    have : a ≠ b := by rintro rfl; rw [less_irrefl] at h; cases h
    simp [this]
  | false =>
    cases g : slt b a with
    | true =>
      have : a ≠ b := by rintro rfl; rw [less_irrefl] at g; cases g
      simp [this]
    | false => simp [slt_total a b h g]
theorem sv_app' (a b : List ByteArray) : sv (a ++ b) = sv a ++ sv b := by simp [sv]
theorem sv_one' {xs : List ByteArray} : ∀ v ∈ sv xs, v.oneCell' = true := by
  intro v hv
  obtain ⟨s, _, rfl⟩ := List.mem_map.1 hv
  rfl
theorem find1_any (x : RecC) (A : Option Addr) (c : Nat) (s : ByteArray) (w : World) :
    Calls Tryz.prog 50 #[.agg #[.string x.id, .slice A x.data.length c], .string s] w fun e w' => e = .returned (.int .i64 (scmp x.id s)) ∧ Below w.heap.size w w' := by
  have h := fun W => ocmp_any x.id s W
  obtain ⟨V, hV⟩ : ∃ V, scmp x.id s = V := ⟨_, rfl⟩
  simp only [hV] at h ⊢
  clear hV
  go_enter Tryz.func50, Tryz.ntmps50
  go_wp2_with fail
  refine (h _).mono ?_
  rintro e w1 ⟨rfl, rfl⟩
  go_wp2
  go_ret
  exact ⟨rfl, (Below.refl _ _).alloc (Nat.le_refl _) _⟩
theorem half_ok (lo hi : Nat) (h : lo < hi) : lo ≤ (lo + hi) / 2 ∧ (lo + hi) / 2 < hi := by omega
set_option maxRecDepth 100000 in
set_option maxHeartbeats 8000000 in
theorem search_any (rs : List RecC) (A : Option Addr) (c : Nat) (s : ByteArray) (w : World) {B : Nat} (hx : Recs w B A rs) (hB : B ≤ w.heap.size) (hn : rs.length ≤ 1000) (hr : rises (idsL rs) = true) :
    Calls Tryz.prog 49 #[.slice A rs.length c, .string s, .func (.func 50) #[] #[]] w fun e w' => e = .returned (.tuple #[.int .i64 (before (idsL rs) s : Nat), .bool (hasB (idsL rs) s)]) ∧ Below w.heap.size w w' := by
  obtain ⟨n, hm⟩ : ∃ n, rs.length = n := ⟨_, rfl⟩
  obtain ⟨P, hP⟩ : ∃ P, before (idsL rs) s = P := ⟨_, rfl⟩
  obtain ⟨Q, hQ⟩ : ∃ Q, hasB (idsL rs) s = Q := ⟨_, rfl⟩
  have HX := Lib.hid (And.intro hx (And.intro hr hm))
  have HP := Lib.hid hP
  have HQ := Lib.hid hQ
  rw [hm] at hn ⊢
  rw [hP, hQ]
  clear hx hr hm hP hQ
  go_enter Tryz.func49, Tryz.ntmps49
  go_wp2
  go_loopw [9, 10] (fun vi vj wr => ∃ lo hi : Nat, lo ≤ hi ∧ hi ≤ n ∧ vi = .int .i64 lo ∧ vj = .int .i64 hi ∧ SInv (idsL rs) s lo hi ∧ Below w.heap.size w wr) (fun vi vj _ => (intOf vj - intOf vi).toNat)
  case atStart =>
    refine ⟨0, n, Nat.zero_le _, Nat.le_refl _, rfl, rfl, ?_, Below.refl _ _⟩
    have := HX.out.2.2
    exact ⟨Nat.zero_le _, by rw [idsL_len]; omega, fun j _ h => absurd h (by omega), fun j h g => absurd g (by rw [idsL_len] at h; omega)⟩
  case round =>
    obtain ⟨lo, hi, hle, hhi, rfl, rfl, hinv, hbr⟩ := hrel
    obtain ⟨hx, hr, hm⟩ := HX.out
    have hbs := hbr.size
    by_cases hlt : lo < hi
    · obtain ⟨q, hq⟩ : ∃ q, (lo + hi) / 2 = q := ⟨_, rfl⟩
      have hqq := half_ok lo hi hlt
      rw [hq] at hqq
      have hqr : q < rs.length := by omega
      have hqi : q < (idsL rs).length := by rw [idsL_len]; exact hqr
      obtain ⟨b, off, A', c', hA, hbl, k0, k1, hri⟩ := (hx.thru hbr hB).at' hqr
      subst hA
      have hf := find1_any rs[q] A' c' s wr
      have hup := hinv.up hr hqq.1 hqq.2 hqi
      have hdn := hinv.down hr hqq.1 hqq.2 hqi
      rw [idsL_get hqi hqr] at hup hdn
      obtain ⟨x, hxk⟩ : ∃ x, rs[q] = x := ⟨_, rfl⟩
      rw [hxk] at k0 k1 hf hup hdn
      have hsl := scmp_lt x.id s
      obtain ⟨V, hV⟩ : ∃ V, scmp x.id s = V := ⟨_, rfl⟩
      rw [hV] at hf hsl
      have hloI : (lo : Int) < hi := by omega
      have hqI : (q : Int) < n := by omega
      have hqd : ((lo : Int) + hi) / 2 = q := by omega
      have H := Lib.hid (And.intro hup hdn)
      have HD := Lib.hid hqd
      clear hx hr hm hinv hri hxk hup hdn hV hqd hqi hqr
      go_wp2_with fail
      refine hf.mono ?_
      rintro e w1 ⟨rfl, hb1⟩
      clear hf
      have hb2 := hbr.trans (hb1.mono hbs)
      simp only [HD.out]
      cases hs : slt x.id s with
      | true =>
        rw [hs] at hsl
        have hI := H.out.1 hs
        have HI := Lib.hid hI
        clear hI hs
        go_wp2
        go_roundw
        case rel => exact ⟨q + 1, hi, by omega, hhi, by go_num, rfl, HI.out, hb2⟩
        case measure => simp [intOf]; omega
      | false =>
        rw [hs] at hsl
        have hI := H.out.2 hs
        have HI := Lib.hid hI
        clear hI hs
        go_wp2
        go_roundw
        case rel => exact ⟨lo, q, by omega, by omega, rfl, rfl, HI.out, hb2⟩
        case measure => simp [intOf]; omega
    · have hbe := hinv.done hlt
      obtain rfl : P = lo := HP.out.symm.trans hbe
      have hloI : decide ((P : Int) < hi) = false := by simp; omega
      by_cases hln : P < n
      · have hlr : P < rs.length := by omega
        have hli : P < (idsL rs).length := by rw [idsL_len]; exact hlr
        have hhas : hasB (idsL rs) s = decide (rs[P].id = s) := by
          have := hasB_at (xs := idsL rs) (s := s) (by rw [hbe]; exact hli)
          rw [this]
          simp only [hbe, idsL_get hli hlr]
        obtain ⟨b, off, A', c', hA, hbl, k0, k1, hri⟩ := (hx.thru hbr hB).at' hlr
        subst hA
        have hf := find1_any rs[P] A' c' s wr
        obtain ⟨x, hxk⟩ : ∃ x, rs[P] = x := ⟨_, rfl⟩
        rw [hxk] at k0 k1 hf hhas
        rw [HQ.out, ← scmp_eq] at hhas
        obtain ⟨V, hV⟩ : ∃ V, scmp x.id s = V := ⟨_, rfl⟩
        rw [hV] at hf hhas
        have hE : (V == 0) = Q := hhas.symm
        have hlnI : (P : Int) < n := by omega
        clear hx hr hm hinv hri hxk hV hhas hbe hli hlr
        go_wp2_with fail
        refine hf.mono ?_
        rintro e w1 ⟨rfl, hb1⟩
        clear hf
        have hb2 := hbr.trans (hb1.mono hbs)
        go_wp2
        go_ret2
        exact ⟨rfl, hb2⟩
      · have hln' : decide ((P : Int) < n) = false := by simp; omega
        have hhas : hasB (idsL rs) s = false := hasB_end (by rw [hbe, idsL_len]; omega)
        obtain rfl : Q = false := HQ.out.symm.trans hhas
        clear hx hr hm hinv hbe hhas
        go_wp2
        go_ret2
        exact ⟨rfl, hbr⟩
set_option maxHeartbeats 1000000 in
theorem find_any (t : TabC) (s : ByteArray) (bk : Nat) (Au : Option Addr) (cu : Nat) (Ar : Option Addr) (cr : Nat) (w : World) {B : Nat} (hb : BookIn w t bk Au cu Ar cr B) (hr : rises (idsL t.rows) = true) :
    Calls Tryz.prog 24 #[.pointer (some ⟨bk, 0, none⟩), .string s] w fun e w' => e = .returned (.tuple #[.int .i64 (before (idsL t.rows) s : Nat), .bool (hasB (idsL t.rows) s)]) ∧ Below w.heap.size w w' := by
  have hs := search_any t.rows Ar cr s w hb.tab.rows hb.tab.le hb.tab.rl hr
  have c3 := hb.c3
  obtain ⟨P, hP⟩ : ∃ P, before (idsL t.rows) s = P := ⟨_, rfl⟩
  obtain ⟨Q, hQ⟩ : ∃ Q, hasB (idsL t.rows) s = Q := ⟨_, rfl⟩
  obtain ⟨n, hn⟩ : ∃ n, t.rows.length = n := ⟨_, rfl⟩
  rw [hP, hQ, hn] at hs
  rw [hn] at c3
  rw [hP, hQ]
  clear hb hr hP hQ hn
  go_enter Tryz.func24, Tryz.ntmps24
  go_wp2_with fail
  refine hs.mono ?_
  rintro e w1 ⟨rfl, hb1⟩
  go_wp2
  go_ret2
  exact ⟨rfl, hb1⟩
set_option maxRecDepth 100000 in
set_option maxHeartbeats 8000000 in
theorem rises_any (t : TabC) (bk : Nat) (Au : Option Addr) (cu : Nat) (Ar : Option Addr) (cr : Nat) (w : World) {B : Nat} (hb : BookIn w t bk Au cu Ar cr B) :
    Calls Tryz.prog 39 #[.pointer (some ⟨bk, 0, none⟩)] w fun e w' => e = .returned (.bool (rises (idsL t.rows))) ∧ Below w.heap.size w w' := by
  obtain ⟨i2, hi2, hs0, hs1, hs2⟩ := info_parts info_strg
  have HJ := Lib.hid (And.intro hi2 (And.intro hs0 (And.intro hs1 hs2)))
  obtain ⟨n, hn⟩ : ∃ n, t.rows.length = n := ⟨_, rfl⟩
  have hrl := hb.tab.rl
  have c3 := hb.c3
  rw [hn] at c3 hrl
  obtain ⟨V, hV⟩ : ∃ V, rises (idsL t.rows) = V := ⟨_, rfl⟩
  rw [hV]
  have hok : code (okB (idsL t.rows)) = if V = true then 0 else 8 := by
    unfold okB
    rw [hV, idsL_len, hn, decide_eq_true (show n ≤ 4096 by omega)]
    cases V <;> rfl
  have HH := Lib.hid (And.intro hb (And.intro hn hok))
  clear hi2 hs0 hs1 hs2 hb hn hV hok
  go_enter Tryz.func39, Tryz.ntmps39
  go_wp2
  go_loopw [3, 12] (fun vo vi wr => ∃ k : Nat, k ≤ n ∧ vi = .int .i64 k ∧ wr.ownsRow w.heap.size 9 1 vo k (sv ((idsL t.rows).take k)) ∧ Below w.heap.size w wr) (fun _ vi _ => n - (intOf vi).toNat)
  case atStart => exact ⟨0, Nat.zero_le _, rfl, World.ownsRow_nil _ _ _ _, Below.refl _ _⟩
  case round =>
    obtain ⟨k, hk, rfl, hown, hbr⟩ := hrel
    obtain ⟨hb, hn, hok⟩ := HH.out
    obtain ⟨Ao, co, rfl, hco, hcom⟩ := own_slice hown
    have hbs := hbr.size
    by_cases hlt : k < n
    · have hkr : k < t.rows.length := by omega
      have hki : k < (idsL t.rows).length := by rw [idsL_len]; exact hkr
      obtain ⟨b, off, A', c', hA, hbl, k0, k1, hri⟩ := (hb.tab.rows.thru hbr hb.tab.le).at' hkr
      subst hA
      have htk : (idsL t.rows).take (k + 1) = (idsL t.rows).take k ++ [t.rows[k].id] := by rw [List.take_succ_eq_append_getElem hki, idsL_get hki hkr]
      obtain ⟨x, hxk⟩ : ∃ x, t.rows[k] = x := ⟨_, rfl⟩
      rw [hxk] at k0 k1 htk
      have hkI : (k : Int) < n := by omega
      have HT := Lib.hid htk
      have hX : Below wr.heap.size wr ((wr.alloc (.cells #[.string x.id, .slice A' x.data.length c'] 28)).alloc (.cells #[.string x.id] 9)) := ((Below.refl _ _).alloc (Nat.le_refl _) _).alloc (by simp) _
      have hn2 := own_below hown hX (own_lt hown)
      have hXw := hbr.trans (hX.mono hbs)
      have hszB := hXw.size
      have hzz : (wr.alloc (.cells #[.string x.id, .slice A' x.data.length c'] 28)).heap.size = wr.heap.size + 1 := by simp
      have hrd := rd_new (wr.alloc (.cells #[.string x.id, .slice A' x.data.length c'] 28)) #[.string x.id] 9 (sv [x.id]) rfl
      simp only [World.size_alloc] at hrd
      obtain ⟨hi2, hs0, hs1, hs2⟩ := HJ.out
      clear hb hn hok hri hxk htk hX hown hzz hkr hki
      go_wp2_with (at_builtin; refine wpList_append_rd _ (by rfl) _ _ _ (by rfl) w.heap.size 9 i2 (.string ⟨#[]⟩) 16 Tryz.underlying22 hi2 hs0 hs1 hs2 (by rfl) (.slice Ao k co) k (sv ((idsL t.rows).take k)) (by rfl) hn2 (B := (wr.heap.size + 1 + 1)) (some ⟨wr.heap.size + 1, 0, none⟩) 1 1 (sv [x.id]) (by rfl) hrd rfl sv_one' (by unfold maxLen; omega) (by omega) hszB ?_; intro v3 u4 ho4 hg4 hr4)
      have d4 : Below w.heap.size w u4 := hXw.grown hg4 hszB hr4
      go_roundw
      case rel => exact ⟨k + 1, hlt, by go_num, by rw [HT.out, sv_app']; exact ho4, d4⟩
      case measure => simp [intOf]; omega
    · obtain rfl : n = k := by omega
      have hltd : decide ((n : Int) < n) = false := by simp
      rw [List.take_of_length_le (by rw [idsL_len]; omega)] at hown
      have hil : (idsL t.rows).length = n := by rw [idsL_len]; exact hn
      have hc := ocheck_any Ao co (idsL t.rows) wr (Rd.of_own hown) (by rw [hil]; unfold maxLen; omega)
      rw [hil, hok] at hc
      clear hb hn hok hown hil
      cases V with
      | true =>
        rw [if_pos rfl] at hc
        go_wp2_with fail
        refine hc.mono ?_
        rintro e w1 ⟨rfl, q, rfl⟩
        go_wp2
        go_ret
        exact ⟨rfl, hbr.drewN' _⟩
      | false =>
        rw [if_neg (by decide)] at hc
        go_wp2_with fail
        refine hc.mono ?_
        rintro e w1 ⟨rfl, q, rfl⟩
        go_wp2
        go_ret
        exact ⟨rfl, hbr.drewN' _⟩
end
section
open Go.RowKit
def badR (t : TabC) (r : RecC) : Bool := !oneR r || Tb.clashes ordC t r
def mayT (t : TabC) : Bool := decide (1 ≤ t.most) && decide (t.most ≤ 64) && decide ((t.rows.length : Int) ≤ t.most) && rises (idsL t.rows) && decide t.us.Nodup && !(t.rows.any (badR t))
def checkT (t : TabC) : Int := if mayT t = true then 0 else 8
set_option maxHeartbeats 2000000 in
theorem check1_any (t : TabC) (r : RecC) (bk pb : Nat) (Au : Option Addr) (cu : Nat) (Ar : Option Addr) (cr : Nat) (A : Option Addr) (c : Nat) (w : World) {B B' : Nat} (hb : BookIn w t bk Au cu Ar cr B) (h : RecIn w B' r.data A c) (hB' : B' ≤ w.heap.size) (hw : RecW r)
    (hpb : pb < w.heap.size) (hp : w.cell? ⟨pb, 0, none⟩ = some (.pointer (some ⟨bk, 0, none⟩))) :
    Calls Tryz.prog 42 #[.agg #[.string r.id, .slice A r.data.length c], .pointer (some ⟨pb, 0, none⟩)] w fun e w' => e = .returned (.bool (badR t r)) ∧ Below w.heap.size w w' := by
  obtain ⟨W0, hW0⟩ : ∃ W0, W0 = w.alloc (.cells #[.string r.id, .slice A r.data.length c] 28) := ⟨_, rfl⟩
  have hb0 : Below w.heap.size w W0 := by rw [hW0]; exact (Below.refl _ _).alloc (Nat.le_refl _) _
  have kk : ∀ W, Below W0.heap.size W0 W → W.cell? ⟨w.heap.size, 0, none⟩ = some (.string r.id) ∧ W.cell? ⟨w.heap.size, 1, none⟩ = some (.slice A r.data.length c) := by
    rw [hW0]
    exact fun W q => ⟨box_keep q 0 (by simp), box_keep q 1 (by simp)⟩
  have bw : ∀ W, Below W0.heap.size W0 W → Below w.heap.size w W := fun W q => hb0.trans (q.mono hb0.size)
  have kp : ∀ W, Below W0.heap.size W0 W → W.cell? ⟨pb, 0, none⟩ = some (.pointer (some ⟨bk, 0, none⟩)) := fun W q => ((bw W q).cell (p := ⟨pb, 0, none⟩) hpb).trans hp
  have c1 := one_any r A c W0 ((h.thru hb0 hB').inn (Nat.le_trans hB' hb0.size) hw (hb.below hb0).tab.tabs) (by have := hw.len; omega)
  have c2 := fun W (q : Below W0.heap.size W0 W) => clash_any t r bk Au cu Ar cr A c W (hb.below (bw W q)) (h.thru (bw W q) hB') (Nat.le_trans hB' (bw W q).size) hw
  have HB := Lib.hid bw
  have HK := Lib.hid kk
  have HP := Lib.hid kp
  unfold badR
  obtain ⟨C, hC⟩ : ∃ C, Tb.clashes ordC t r = C := ⟨_, rfl⟩
  simp only [hC] at c2 ⊢
  clear hb h hB' hw hpb hp kk bw kp hC hb0
  cases ho : oneR r with
  | false =>
    rw [ho] at c1
    rw [Bool.not_false, Bool.true_or]
    clear c2 ho
    subst hW0
    go_enter Tryz.func42, Tryz.ntmps42
    go_wp2_with fail
    refine c1.mono ?_
    rintro e w1 ⟨rfl, hb1⟩
    go_wp2
    go_ret
    exact ⟨rfl, HB.out _ hb1⟩
  | true =>
    rw [ho] at c1
    rw [Bool.not_true, Bool.false_or]
    clear ho
    subst hW0
    go_enter Tryz.func42, Tryz.ntmps42
    go_wp2_with fail
    refine c1.mono ?_
    rintro e w1 ⟨rfl, hb1⟩
    obtain ⟨k0, k1⟩ := HK.out _ hb1
    have kp1 := HP.out _ hb1
    go_wp2_with fail
    refine (c2 w1 hb1).mono ?_
    rintro e w2 ⟨rfl, hb2⟩
    go_wp2
    go_ret
    exact ⟨rfl, HB.out _ (hb1.trans (hb2.mono hb1.size))⟩
theorem enter_check1 (args : Array Value) (w : World) : (callFunc 42 args).run Tryz.prog w = .ok (.enter 42 args) w :=
  enter_of Tryz.func42 (by kernel_rfl) rfl args w
theorem box_at {w W : World} {cs : Array Value} {T : TypeId} {B : Nat} (q : Below B (w.alloc (.cells cs T)) W) (hB : w.heap.size < B) (i : Nat) (h : i < cs.size) : W.cell? ⟨w.heap.size, i, none⟩ = some cs[i] := by
  rw [q.cell (p := ⟨w.heap.size, i, none⟩) hB]
  rw [cell_of_row _ w.heap.size i _ _ (0, 0) (by simp only [heap_alloc_new]; rfl), Array.getElem?_eq_getElem]
set_option maxRecDepth 100000 in
set_option maxHeartbeats 8000000 in
theorem check_t (t : TabC) (Au : Option Addr) (cu : Nat) (Ar : Option Addr) (cr : Nat) (w : World) {B : Nat} (h : TabIn w B t Au Ar) (hz : ∀ s ∈ t.us, s.size ≤ maxLen) :
    Calls Tryz.prog 17 #[.agg #[.string t.name, .int .i64 t.most, .slice Au t.us.length cu, .slice Ar t.rows.length cr]] w fun e w' => e = .returned (.int .i64 (checkT t)) ∧ Below w.heap.size w w' := by
  obtain ⟨W1, hW1⟩ : ∃ W1, W1 = w.alloc (.cells #[.string t.name, .int .i64 t.most, .slice Au t.us.length cu, .slice Ar t.rows.length cr] 25) := ⟨_, rfl⟩
  obtain ⟨W2, hW2⟩ : ∃ W2, W2 = W1.alloc (.cells #[.string t.name, .int .i64 t.most, .slice Au t.us.length cu, .slice Ar t.rows.length cr] 53) := ⟨_, rfl⟩
  obtain ⟨W3, hW3⟩ : ∃ W3, W3 = W2.alloc (.cells #[.pointer (some ⟨w.heap.size + 1, 0, none⟩)] 51) := ⟨_, rfl⟩
  have z1 : W1.heap.size = w.heap.size + 1 := by rw [hW1]; simp
  have z2 : W2.heap.size = w.heap.size + 1 + 1 := by rw [hW2, World.size_alloc, z1]
  have z3 : W3.heap.size = w.heap.size + 1 + 1 + 1 := by rw [hW3, World.size_alloc, z2]
  have b01 : Below w.heap.size w W1 := by rw [hW1]; exact (Below.refl _ _).alloc (Nat.le_refl _) _
  have b12 : Below W1.heap.size W1 W2 := by rw [hW2]; exact (Below.refl _ _).alloc (Nat.le_refl _) _
  have b23 : Below W2.heap.size W2 W3 := by rw [hW3]; exact (Below.refl _ _).alloc (Nat.le_refl _) _
  have b02 := b01.trans (b12.mono b01.size)
  have b03 := b02.trans (b23.mono b02.size)
  have b13 := b12.trans (b23.mono b12.size)
  have k1 : ∀ W, Below W3.heap.size W3 W → W.cell? ⟨w.heap.size, 3, none⟩ = some (.slice Ar t.rows.length cr) := fun W q => by
    have b := b13.trans (q.mono b13.size)
    rw [hW1] at b
    exact box_at b (by simp) 3 (by simp)
  have kb : ∀ W, Below W3.heap.size W3 W → W.cell? ⟨w.heap.size + 1, 0, none⟩ = some (.string t.name) ∧ W.cell? ⟨w.heap.size + 1, 1, none⟩ = some (.int .i64 t.most) ∧ W.cell? ⟨w.heap.size + 1, 2, none⟩ = some (.slice Au t.us.length cu) ∧ W.cell? ⟨w.heap.size + 1, 3, none⟩ = some (.slice Ar t.rows.length cr) := fun W q => by
    have b := b23.trans (q.mono b23.size)
    rw [hW2] at b
    have g := fun i hi => box_at b (by simp) i hi
    rw [z1] at g
    exact ⟨g 0 (by simp), g 1 (by simp), g 2 (by simp), g 3 (by simp)⟩
  have kp : ∀ W, Below W3.heap.size W3 W → W.cell? ⟨w.heap.size + 1 + 1, 0, none⟩ = some (.pointer (some ⟨w.heap.size + 1, 0, none⟩)) := fun W q => by
    have b := q
    rw [hW3] at b
    have g := box_at b (by simp) 0 (by simp)
    rw [z2] at g
    exact g
  have hbk : BookIn W3 t (w.heap.size + 1) Au cu Ar cr B := ⟨by omega, (kb W3 (Below.refl _ _)).1, (kb W3 (Below.refl _ _)).2.1, (kb W3 (Below.refl _ _)).2.2.1, (kb W3 (Below.refl _ _)).2.2.2, h.below b03⟩
  have bw : ∀ W, Below W3.heap.size W3 W → Below w.heap.size w W := fun W q => b03.trans (q.mono b03.size)
  have c1 := fun W (q : Below W3.heap.size W3 W) => rises_any t (w.heap.size + 1) Au cu Ar cr W (hbk.below q)
  have c2 := fun W (q : Below W3.heap.size W3 W) => once_any t (w.heap.size + 1) Au cu Ar cr W (hbk.below q) hz
  have c3 := fun W (q : Below W3.heap.size W3 W) => containsR_any t.rows Ar cr 42 #[.pointer (some ⟨w.heap.size + 1 + 1, 0, none⟩)] (badR t) W (hbk.below q).tab.rows (hbk.below q).tab.le h.rl enter_check1 (by
    intro k hk A' c' U qU hri
    have qq := q.trans (qU.mono q.size)
    have hbU := hbk.below qq
    exact check1_any t t.rows[k] (w.heap.size + 1) (w.heap.size + 1 + 1) Au cu Ar cr A' c' U hbU hri hbU.tab.le (h.wf _ (List.getElem_mem hk)) (by have := qq.size; omega) (kp U qq))
  have hrl := h.rl
  have HB := Lib.hid bw
  have HK1 := Lib.hid k1
  have HKP := Lib.hid kp
  obtain ⟨V, hV⟩ : ∃ V, checkT t = V := ⟨_, rfl⟩
  rw [hV]
  have HV := Lib.hid hV
  unfold checkT mayT at hV
  have HVV := Lib.hid hV
  obtain ⟨R1, hR1⟩ : ∃ R, rises (idsL t.rows) = R := ⟨_, rfl⟩
  obtain ⟨O1, hO1⟩ : ∃ R, decide t.us.Nodup = R := ⟨_, rfl⟩
  obtain ⟨A1, hA1⟩ : ∃ R, t.rows.any (badR t) = R := ⟨_, rfl⟩
  obtain ⟨n, hn⟩ : ∃ n, t.rows.length = n := ⟨_, rfl⟩
  obtain ⟨m, hm⟩ : ∃ m, t.us.length = m := ⟨_, rfl⟩
  obtain ⟨mo, hmo⟩ : ∃ m, t.most = m := ⟨_, rfl⟩
  obtain ⟨nam, hnam⟩ : ∃ m, t.name = m := ⟨_, rfl⟩
  simp only [hR1, hO1, hA1, hn, hmo] at hV
  simp only [hR1] at c1
  simp only [hO1] at c2
  simp only [hA1, hn] at c3
  rw [hn] at hrl HK1
  rw [hn, hm, hmo, hnam] at hW1 ⊢
  rw [hn, hm, hmo, hnam] at hW2
  have HVX := Lib.hid hV
  clear hV HVV HV h hz k1 kb kp hbk bw z1 z2 z3 b01 b12 b23 b02 b03 b13 hR1 hO1 hA1 hn hm hmo hnam
  have hb3 : ∀ W, Below W3.heap.size W3 W → Below w.heap.size w W := HB.out
  by_cases hs : (1 ≤ mo ∧ mo ≤ 64) ∧ (n : Int) ≤ mo
  · obtain ⟨⟨h1, h2⟩, h3⟩ := hs
    have g1 : decide (1 ≤ mo) = true := decide_eq_true h1
    have g2 : decide (mo ≤ 64) = true := decide_eq_true h2
    have g3 : decide ((n : Int) ≤ mo) = true := decide_eq_true h3
    have hV : V = if (R1 && O1 && !A1) = true then 0 else 8 := by rw [← HVX.out, g1, g2, g3]; simp only [Bool.true_and]
    clear HVX h1 h2 h3
    cases R1 with
    | false =>
      obtain rfl : V = 8 := by rw [hV]; simp
      have HC := c1 W3 (Below.refl _ _)
      have hb3' := Lib.hid hb3
      clear hV c1 c2 c3 hb3
      subst hW3
      subst hW2
      subst hW1
      go_enter Tryz.func17, Tryz.ntmps17
      go_wp2_with fail
      refine HC.mono ?_
      rintro e w1 ⟨rfl, hb1⟩
      go_wp2
      go_ret
      exact ⟨rfl, hb3'.out _ hb1⟩
    | true =>
      have HC := c1 W3 (Below.refl _ _)
      cases O1 with
      | false =>
        obtain rfl : V = 8 := by rw [hV]; simp
        have hb3' := Lib.hid hb3
        have HC2 := Lib.hid c2
        clear hV c1 c2 c3 hb3
        subst hW3
        subst hW2
        subst hW1
        go_enter Tryz.func17, Tryz.ntmps17
        go_wp2_with fail
        refine HC.mono ?_
        rintro e w1 ⟨rfl, hb1⟩
        have kp1 := HKP.out _ hb1
        clear HC
        go_wp2_with fail
        refine (HC2.out w1 hb1).mono ?_
        rintro e w2 ⟨rfl, hb2⟩
        go_wp2
        go_ret
        exact ⟨rfl, hb3'.out _ (hb1.trans (hb2.mono hb1.size))⟩
      | true =>
        have hV' : V = if A1 = true then 8 else 0 := by rw [hV]; cases A1 <;> rfl
        have hb3' := Lib.hid hb3
        have HC2 := Lib.hid c2
        have HC3 := Lib.hid c3
        clear hV c1 c2 c3 hb3
        have HVV := Lib.hid hV'
        clear hV'
        subst hW3
        subst hW2
        subst hW1
        go_enter Tryz.func17, Tryz.ntmps17
        go_wp2_with fail
        refine HC.mono ?_
        rintro e w1 ⟨rfl, hb1⟩
        have kp1 := HKP.out _ hb1
        clear HC
        go_wp2_with fail
        refine (HC2.out w1 hb1).mono ?_
        rintro e w2 ⟨rfl, hb2⟩
        have d2 := hb1.trans (hb2.mono hb1.size)
        have k12 := HK1.out _ d2
        clear kp1
        go_wp2_with fail
        refine (HC3.out w2 d2).mono ?_
        rintro e w3 ⟨rfl, hb3⟩
        have hF := hb3'.out _ (d2.trans (hb3.mono d2.size))
        cases A1 with
        | true =>
          obtain rfl : V = 8 := by rw [HVV.out]; rfl
          go_wp2
          go_ret
          exact ⟨rfl, hF⟩
        | false =>
          obtain rfl : V = 0 := by rw [HVV.out]; rfl
          go_wp2
          go_ret
          exact ⟨rfl, hF⟩
  · have hV : V = 8 := by
      rw [← HVX.out]
      by_cases h1 : 1 ≤ mo
      · by_cases h2 : mo ≤ 64
        · have h3 : ¬ (n : Int) ≤ mo := fun g => hs ⟨⟨h1, h2⟩, g⟩
          simp [h1, h2, h3]
        · simp [h1, h2]
      · simp [h1]
    subst hV
    have hF := hb3 W3 (Below.refl _ _)
    have HF := Lib.hid hF
    clear HVX c1 c2 c3 hb3 hF
    subst hW3
    subst hW2
    subst hW1
    by_cases h1 : 1 ≤ mo
    · by_cases h2 : mo ≤ 64
      · have h3 : ¬ (n : Int) ≤ mo := fun g => hs ⟨⟨h1, h2⟩, g⟩
        have g1 : decide (1 ≤ mo) = true := decide_eq_true h1
        have g2 : decide (mo ≤ 64) = true := decide_eq_true h2
        have g3 : decide ((n : Int) ≤ mo) = false := decide_eq_false h3
        clear hs h1 h2 h3
        go_enter Tryz.func17, Tryz.ntmps17
        go_wp2
        go_ret
        exact ⟨rfl, HF.out⟩
      · have g1 : decide (1 ≤ mo) = true := decide_eq_true h1
        have g2 : decide (mo ≤ 64) = false := decide_eq_false h2
        clear hs h1 h2
        go_enter Tryz.func17, Tryz.ntmps17
        go_wp2
        go_ret
        exact ⟨rfl, HF.out⟩
    · have g1 : decide (1 ≤ mo) = false := decide_eq_false h1
      clear hs h1
      go_enter Tryz.func17, Tryz.ntmps17
      go_wp2
      go_ret
      exact ⟨rfl, HF.out⟩
end
end Go.Proofs.YtcgioepbooafcaaGreatDoor
