/- The program's text that is read: number. Conditions: those of each theorem. -/
import Derived.Test.YtdaadoiedaplaaaDoorText
import Derived.Laws.IdiomStrings
namespace Go.Proofs.YtdaadoiedaplaaaDoor
open Go.RowKit Go.Lib
/-- a digit -/
def isDig (c : UInt8) : Bool := decide (48 ≤ c.toNat ∧ c.toNat ≤ 57)
def dval (c : UInt8) : Nat := (c.toNat + 208) % 256
def valL (l : List UInt8) : Nat := l.foldl (fun n c => n * 10 + dval c) 0
theorem valL_snoc (l : List UInt8) (c : UInt8) : valL (l ++ [c]) = valL l * 10 + dval c := by simp [valL]
theorem fold_bd : ∀ (l : List UInt8) (n : Nat), l.foldl (fun n c => n * 10 + dval c) n + 29 ≤ (n + 29) * 10 ^ l.length
  | [], n => by simp
  | c :: l, n => by
    have ih := fold_bd l (n * 10 + dval c)
    have : dval c < 256 := Nat.mod_lt _ (by decide)
    rw [List.foldl_cons, List.length_cons, Nat.pow_succ, Nat.mul_comm (10 ^ l.length) 10, ← Nat.mul_assoc]
    exact Nat.le_trans ih (Nat.mul_le_mul_right _ (by omega))
theorem valL_bd (l : List UInt8) : valL l + 29 ≤ 29 * 10 ^ l.length := by
  have := fold_bd l 0
  simpa [valL] using this
/-- a number of so many digits, between two bounds -/
def numP (many low high : Nat) (l : List UInt8) : Option (Nat × List UInt8) :=
  if many ≤ l.length ∧ (l.take many).all isDig = true ∧ low ≤ valL (l.take many) ∧ valL (l.take many) ≤ high then some (valL (l.take many), l.drop many) else none
/-- the state of a text that is read: what is left, or that it is bad -/
def St (w : World) (g : Nat) (o : Option (List UInt8)) : Prop :=
  ∃ (s : ByteArray) (b : Bool), w.cell? ⟨g, 0, none⟩ = some (.string s) ∧ w.cell? ⟨g, 1, none⟩ = some (.bool b) ∧ w.frozen? ⟨g, 0, none⟩ = false ∧ w.frozen? ⟨g, 1, none⟩ = false ∧ s.size ≤ maxLen ∧
    (match o with | some l => b = false ∧ s.data.toList = l | none => b = true)
theorem conv_bytes (W : World) (s : ByteArray) : ∃ (c : Nat) (W' : World), (convert 9 45 (.string s)).run Tryd.prog W = .ok (.slice (some ⟨W.heap.size, 0, none⟩) s.size c) W' ∧ W.grownBy W' none ∧
    ∀ j (h : j < s.size), W'.cell? ⟨W.heap.size, j, none⟩ = some (.int .u8 (s[j]).toNat) := by
  have hr := run_bytes_of_string (P := Tryd.prog) W 9 45 5 s Tryd.underlying9 Tryd.underlying45 Tryd.underlying5
  refine ⟨_, _, hr, ⟨rfl, rfl, rfl, by simp, fun k hk _ => ?_⟩, fun j hj => ?_⟩
  · exact heap_alloc_old W.drew _ hk
  · have e : (W.drew.alloc (.cells (bytesRow s (grownCap W s.size 0 5)) 5 ((bytesRow s (grownCap W s.size 0 5)).size, (bytesRow s (grownCap W s.size 0 5)).size + 1))).heap[W.heap.size]? = some (.cells (bytesRow s (grownCap W s.size 0 5)) 5 ((bytesRow s (grownCap W s.size 0 5)).size, (bytesRow s (grownCap W s.size 0 5)).size + 1)) := heap_alloc_new W.drew _
    simp only [World.cell?, e]
    exact bytesRow_at s _ j hj
theorem isdig_iff (c : UInt8) : isDig c = !(decide ((c.toNat : Int) < 48) || decide ((57 : Int) < c.toNat)) := by
  unfold isDig
  rw [Bool.eq_iff_iff]
  simp
  omega
theorem all_snoc (l : List UInt8) (c : UInt8) (b : Bool) : (b || !(l ++ [c]).all isDig) = ((b || !l.all isDig) || decide ((c.toNat : Int) < 48) || decide ((57 : Int) < c.toNat)) := by
  rw [List.all_append, List.all_cons, List.all_nil, isdig_iff]
  cases b <;> cases l.all isDig <;> simp
theorem ba_len (s : ByteArray) : s.data.toList.length = s.size := by rw [Array.length_toList]; rfl
def NumPost (g many low high : Nat) (o : Option (List UInt8)) (w : World) (e : Ending) (w' : World) : Prop :=
  ∃ r : Nat, e = .returned (.int .i64 r) ∧ low ≤ r ∧ r ≤ high ∧ (∀ v l, o.bind (numP many low high) = some (v, l) → r = v) ∧ St w' g ((o.bind (numP many low high)).map (·.2)) ∧ w.grownBy w' (some g)
theorem gb_set (w : World) (g k : Nat) (v : Value) : w.grownBy (w.setCell ⟨g, k, none⟩ v) (some g) :=
  ⟨rfl, rfl, rfl, by simp, fun i _ hne => heap_setCell_other w ⟨g, k, none⟩ i v (fun e => hne (by simp [e]))⟩
theorem u8_low (x : Nat) (h : x < 48) : IntKind.u8.wrap ((x : Int) - 48) = x + 208 := by
  have : ∀ x : Fin 48, IntKind.u8.wrap (((x : Nat) : Int) - 48) = (x : Nat) + 208 := by decide
  exact this ⟨x, h⟩
theorem num_eq {a b : Int} (h : a = b) : Value.int .i64 a = Value.int .i64 b := by rw [h]
theorem gb_refl (w : World) (r : Option Nat) : w.grownBy w r := ⟨rfl, rfl, rfl, Nat.le_refl _, fun _ _ _ => rfl⟩
theorem gb_trans {a b c : World} {r : Option Nat} (h : a.grownBy b r) (k : b.grownBy c r) : a.grownBy c r :=
  ⟨k.os.trans h.os, k.tape.trans h.tape, k.output.trans h.output, Nat.le_trans h.size k.size, fun i hi hne => (k.block i (Nat.lt_of_lt_of_le hi h.size) hne).trans (h.block i hi hne)⟩
theorem ext_drop (s : ByteArray) (k : Nat) : (s.extract k s.size).data.toList = s.data.toList.drop k := Lib.extract_to_end s k
theorem st_mk {w : World} {g : Nat} {s0 : ByteArray} {b0 : Bool} (s : ByteArray) (b : Bool) (o : Option (List UInt8)) (h : match o with | some l => b = false ∧ s.data.toList = l | none => b = true)
    (c0 : w.cell? ⟨g, 0, none⟩ = some (.string s0)) (c1 : w.cell? ⟨g, 1, none⟩ = some (.bool b0)) (f0 : w.frozen? ⟨g, 0, none⟩ = false) (f1 : w.frozen? ⟨g, 1, none⟩ = false) (hs : s.size ≤ maxLen) :
    St ((w.setCell ⟨g, 0, none⟩ (.string s)).setCell ⟨g, 1, none⟩ (.bool b)) g o := by
  have q : (w.setCell ⟨g, 0, none⟩ (.string s)).cell? ⟨g, 1, none⟩ = some (.bool b0) := by rw [World.cell?_setCell_other _ _ _ _ (by simp)]; exact c1
  refine ⟨s, b, ?_, World.cell?_setCell_same _ _ _ q, ?_, ?_, hs, h⟩
  · rw [World.cell?_setCell_other _ _ _ _ (by simp)]; exact World.cell?_setCell_same _ _ _ c0
  · rw [World.frozen?_setCell, World.frozen?_setCell]; exact f0
  · rw [World.frozen?_setCell, World.frozen?_setCell]; exact f1
set_option maxHeartbeats 4000000 in
set_option maxRecDepth 100000 in
theorem number_any (g many low high : Nat) (o : Option (List UInt8)) (w : World) (hm1 : 1 ≤ many) (hm9 : many ≤ 9) (hlh : low ≤ high) (hS : St w g o) :
    Calls Tryd.prog 24 #[.pointer (some ⟨g, 0, none⟩), .int .i64 many, .int .i64 low, .int .i64 high] w (NumPost g many low high o w) := by
  obtain ⟨s, b, c0, c1, f0, f1, hsz, ho⟩ := hS
  unfold maxLen at hsz
  have hg : g < w.heap.size := World.block_lt_of_cell? w _ c0
  by_cases hlen : s.size < many
  · have hlen' : (s.size : Int) < many := by omega
    have hres : (o.bind (numP many low high)) = none := by
      cases o with
      | none => rfl
      | some l =>
        obtain ⟨rfl, rfl⟩ := ho
        show numP many low high s.data.toList = none
        unfold numP
        rw [if_neg]
        intro h
        have := h.1
        rw [ba_len] at this
        omega
    have HR := Lib.hid hres
    clear hres ho
    go_enter Tryd.func24, Tryd.ntmps24
    go_wp2
    go_ret
    refine ⟨low, rfl, Nat.le_refl _, hlh, (fun v l h => by rw [HR.out] at h; cases h), ?_, gb_set _ _ _ _⟩
    rw [HR.out]
    refine ⟨s, true, ?_, World.cell?_setCell_same _ _ _ c1, ?_, ?_, hsz, rfl⟩
    · rw [World.cell?_setCell_other _ _ _ _ (by simp)]; exact c0
    · rw [World.frozen?_setCell]; exact f0
    · rw [World.frozen?_setCell]; exact f1
  · go_enter Tryd.func24, Tryd.ntmps24
    go_wp2
    obtain ⟨cc, w1, hconv, hgr, hcells⟩ := conv_bytes w (s.extract 0 many)
    have hs1 : (s.extract 0 many).size = many := by rw [ByteArray.size_extract]; omega
    rw [hconv]
    rw [hs1]
    have d0 : w1.cell? ⟨g, 0, none⟩ = some (.string s) := hgr.cell c0 (by simp)
    have d1 : w1.cell? ⟨g, 1, none⟩ = some (.bool b) := hgr.cell c1 (by simp)
    have e0 : w1.frozen? ⟨g, 0, none⟩ = false := (World.frozen?_of_block (hgr.block g hg (by simp))).trans f0
    have e1 : w1.frozen? ⟨g, 1, none⟩ = false := (World.frozen?_of_block (hgr.block g hg (by simp))).trans f1
    have hgb : w.grownBy w1 (some g) := ⟨hgr.os, hgr.tape, hgr.output, hgr.size, fun k hk _ => hgr.block k hk (by simp)⟩
    have hbytes : ∀ j (h : j < many), (s.extract 0 many)[j]'(by omega) = s.data.toList[j]'(by rw [ba_len]; omega) := fun j h => by
      rw [ByteArray.getElem_extract]
      simp only [Nat.zero_add]
      rfl
    obtain ⟨l, hl⟩ : ∃ l, s.data.toList.take many = l := ⟨_, rfl⟩
    have hll : l.length = many := by rw [← hl, List.length_take, ba_len]; omega
    have hc2 : ∀ j (h : j < l.length), w1.cell? ⟨w.heap.size, j, none⟩ = some (.int .u8 (l[j]).toNat) := fun j h => by
      rw [hcells j (by rw [hs1]; omega), hbytes j (by omega)]
      subst hl
      rw [List.getElem_take]
    clear hconv hcells hbytes hgr c0 c1 f0 f1
    obtain ⟨gb, hgb2⟩ : ∃ gb, w.heap.size = gb := ⟨_, rfl⟩
    have hne : gb ≠ g := by omega
    rw [hgb2] at hc2 ⊢
    have HL := Lib.hid hl
    have HG := Lib.hid hgb2
    clear hl hgb2
    go_wp2
    go_loopw [8, 30] (fun n i wr => ∃ (k : Nat) (bk : Bool), k ≤ many ∧ i = .int .i64 k ∧ n = .int .i64 (valL (l.take k)) ∧ bk = (b || !(l.take k).all isDig) ∧ wr.cell? ⟨g, 0, none⟩ = some (.string s) ∧ wr.cell? ⟨g, 1, none⟩ = some (.bool bk) ∧ wr.frozen? ⟨g, 0, none⟩ = false ∧ wr.frozen? ⟨g, 1, none⟩ = false ∧ w.grownBy wr (some g) ∧ ∀ j (h : j < l.length), wr.cell? ⟨gb, j, none⟩ = some (.int .u8 (l[j]).toNat)) (fun _ i _ => many - (RowKit.intOf i).toNat)
    case atStart => exact ⟨0, b, Nat.zero_le _, rfl, rfl, by simp, d0, d1, e0, e1, hgb, hc2⟩
    case round =>
      obtain ⟨k, bk, hk, rfl, rfl, hbk, d0, d1, e0, e1, hgw, hc⟩ := hrel
      have hvb := valL_bd (l.take k)
      by_cases hlt : k < many
      · have hcx := hc k (by omega)
        have HC := Lib.hid hc
        have hsn : l.take (k + 1) = l.take k ++ [l[k]] := List.take_succ_eq_append_getElem (by omega)
        have hv2 := valL_snoc (l.take k) l[k]
        have hb2 := all_snoc (l.take k) l[k] b
        rw [← hsn] at hv2 hb2
        rw [← hbk] at hb2
        have hx : (l[k]).toNat < 256 := (l[k]).toNat_lt
        have hdv : dval l[k] = ((l[k]).toNat + 208) % 256 := rfl
        rw [hdv] at hv2
        have hpow : 10 ^ (l.take k).length ≤ 10 ^ 8 := Nat.pow_le_pow_right (by omega) (by rw [List.length_take]; omega)
        generalize (l[k]).toNat = x at *
        generalize valL (l.take k) = v at *
        have hvv : v ≤ 2900000000 := by omega
        have hd1 : 10 * (v : Int) + 255 ≤ 30000000000 := by omega
        have HV := Lib.hid hv2
        have HB := Lib.hid hb2
        clear hc hsn hv2 hb2 hbk hdv hpow hvb hc2 hgb
        by_cases hx1 : x < 48
        · have hw1 : IntKind.u8.wrap ((x : Int) - 48) = x + 208 := u8_low x hx1
          have hi1 : (x : Int) < 48 := by omega
          cases bk
          · go_wp2
            go_roundw
            case rel =>
              exact ⟨k + 1, true, by omega, by go_num, by rw [HV.out]; exact num_eq (by omega), by rw [HB.out]; simp <;> omega, by rw [World.cell?_setCell_other _ _ _ _ (by simp)]; exact d0, World.cell?_setCell_same _ _ _ d1, by rw [World.frozen?_setCell]; exact e0, by rw [World.frozen?_setCell]; exact e1, gb_trans hgw (gb_set _ _ _ _), fun j h => by
                rw [World.cell?_setCell_far _ _ _ _ (show g ≠ gb from fun e => hne e.symm)]
                exact HC.out j h⟩
            case measure => simp [RowKit.intOf]; omega
          · go_wp2
            go_roundw
            case rel =>
              exact ⟨k + 1, true, by omega, by go_num, by rw [HV.out]; exact num_eq (by omega), by rw [HB.out]; simp <;> omega, by rw [World.cell?_setCell_other _ _ _ _ (by simp)]; exact d0, World.cell?_setCell_same _ _ _ d1, by rw [World.frozen?_setCell]; exact e0, by rw [World.frozen?_setCell]; exact e1, gb_trans hgw (gb_set _ _ _ _), fun j h => by
                rw [World.cell?_setCell_far _ _ _ _ (show g ≠ gb from fun e => hne e.symm)]
                exact HC.out j h⟩
            case measure => simp [RowKit.intOf]; omega
        · by_cases hx2 : 57 < x
          · have hi1 : ¬ (x : Int) < 48 := by omega
            have hi2 : (57 : Int) < x := by omega
            cases bk
            · go_wp2
              go_roundw
              case rel =>
                exact ⟨k + 1, true, by omega, by go_num, by rw [HV.out]; exact num_eq (by omega), by rw [HB.out]; simp <;> omega, by rw [World.cell?_setCell_other _ _ _ _ (by simp)]; exact d0, World.cell?_setCell_same _ _ _ d1, by rw [World.frozen?_setCell]; exact e0, by rw [World.frozen?_setCell]; exact e1, gb_trans hgw (gb_set _ _ _ _), fun j h => by
                  rw [World.cell?_setCell_far _ _ _ _ (show g ≠ gb from fun e => hne e.symm)]
                  exact HC.out j h⟩
              case measure => simp [RowKit.intOf]; omega
            · go_wp2
              go_roundw
              case rel =>
                exact ⟨k + 1, true, by omega, by go_num, by rw [HV.out]; exact num_eq (by omega), by rw [HB.out]; simp <;> omega, by rw [World.cell?_setCell_other _ _ _ _ (by simp)]; exact d0, World.cell?_setCell_same _ _ _ d1, by rw [World.frozen?_setCell]; exact e0, by rw [World.frozen?_setCell]; exact e1, gb_trans hgw (gb_set _ _ _ _), fun j h => by
                  rw [World.cell?_setCell_far _ _ _ _ (show g ≠ gb from fun e => hne e.symm)]
                  exact HC.out j h⟩
              case measure => simp [RowKit.intOf]; omega
          · have hi1 : ¬ (x : Int) < 48 := by omega
            have hi2 : ¬ (57 : Int) < x := by omega
            cases bk
            · go_wp2
              go_roundw
              case rel =>
                exact ⟨k + 1, false, by omega, by go_num, by rw [HV.out]; exact num_eq (by omega), by rw [HB.out]; simp <;> omega, by rw [World.cell?_setCell_other _ _ _ _ (by simp)]; exact d0, World.cell?_setCell_same _ _ _ d1, by rw [World.frozen?_setCell]; exact e0, by rw [World.frozen?_setCell]; exact e1, gb_trans hgw (gb_set _ _ _ _), fun j h => by
                  rw [World.cell?_setCell_far _ _ _ _ (show g ≠ gb from fun e => hne e.symm)]
                  exact HC.out j h⟩
              case measure => simp [RowKit.intOf]; omega
            · go_wp2
              go_roundw
              case rel =>
                exact ⟨k + 1, true, by omega, by go_num, by rw [HV.out]; exact num_eq (by omega), by rw [HB.out]; simp <;> omega, by rw [World.cell?_setCell_other _ _ _ _ (by simp)]; exact d0, World.cell?_setCell_same _ _ _ d1, by rw [World.frozen?_setCell]; exact e0, by rw [World.frozen?_setCell]; exact e1, gb_trans hgw (gb_set _ _ _ _), fun j h => by
                  rw [World.cell?_setCell_far _ _ _ _ (show g ≠ gb from fun e => hne e.symm)]
                  exact HC.out j h⟩
              case measure => simp [RowKit.intOf]; omega
      · obtain rfl : k = many := by omega
        rw [show l.take k = l from List.take_of_length_le (by omega)] at hbk hvb ⊢
        have hpow : 10 ^ l.length ≤ 10 ^ 9 := Nat.pow_le_pow_right (by omega) (by omega)
        have hno : (bk = true ∨ valL l < low ∨ high < valL l) → o.bind (numP k low high) = none := by
          intro hcase
          cases o with
          | none => rfl
          | some L =>
            obtain ⟨rfl, rfl⟩ := ho
            show numP k low high s.data.toList = none
            unfold numP
            rw [if_neg]
            rw [HL.out]
            rintro ⟨_, h2, h3, h4⟩
            rw [h2] at hbk
            rcases hcase with h | h | h
            · rw [h] at hbk; cases hbk
            · omega
            · omega
        have hyes : bk = false → low ≤ valL l → valL l ≤ high → o.bind (numP k low high) = some (valL l, s.data.toList.drop k) := by
          intro hb1 hb2 hb3
          cases o with
          | none =>
            subst ho
            rw [hb1] at hbk
            cases hbk
          | some L =>
            obtain ⟨rfl, rfl⟩ := ho
            show numP k low high s.data.toList = _
            unfold numP
            rw [HL.out, if_pos]
            refine ⟨by rw [ba_len]; omega, ?_, hb2, hb3⟩
            rw [hb1] at hbk
            simpa using hbk.symm
        have hdrop : (s.extract k s.size).data.toList = s.data.toList.drop k := ext_drop s k
        have hsz2 : (s.extract k s.size).size ≤ maxLen := by rw [ByteArray.size_extract]; unfold maxLen; omega
        have HN := Lib.hid hno
        have HY := Lib.hid hyes
        have HDR := Lib.hid hdrop
        generalize valL l = v at *
        have hvv : v ≤ 29000000000 := by omega
        clear hno hyes hdrop hbk hvb hpow hc hc2 hgb ho
        cases bk
        · by_cases h1 : v < low
          · have hr := HN.out (.inr (.inl h1))
            have HR := Lib.hid hr
            have h1' : (v : Int) < low := by omega
            clear hr HN HY
            go_wp2
            go_ret
            refine ⟨low, rfl, Nat.le_refl _, hlh, ?_, ?_, ?_⟩
            · intro v' l' h; rw [HR.out] at h; cases h
            · rw [HR.out]
              exact st_mk _ _ none rfl d0 d1 e0 e1 hsz2
            · exact gb_trans hgw (gb_trans (gb_set _ _ _ _) (gb_set _ _ _ _))
          · by_cases h2 : high < v
            · have hr := HN.out (.inr (.inr h2))
              have HR := Lib.hid hr
              have h1' : ¬ (v : Int) < low := by omega
              have h2' : (high : Int) < v := by omega
              clear hr HN HY
              go_wp2
              go_ret
              refine ⟨low, rfl, Nat.le_refl _, hlh, ?_, ?_, ?_⟩
              · intro v' l' h; rw [HR.out] at h; cases h
              · rw [HR.out]
                exact st_mk _ _ none rfl d0 d1 e0 e1 hsz2
              · exact gb_trans hgw (gb_trans (gb_set _ _ _ _) (gb_set _ _ _ _))
            · have hr := HY.out rfl (by omega) (by omega)
              have HR := Lib.hid hr
              have h1' : ¬ (v : Int) < low := by omega
              have h2' : ¬ (high : Int) < v := by omega
              clear hr HN HY
              go_wp2
              go_ret
              refine ⟨v, rfl, by omega, by omega, ?_, ?_, ?_⟩
              · intro v' l' h; rw [HR.out] at h; cases h; rfl
              · rw [HR.out]
                exact st_mk _ _ (some _) ⟨rfl, HDR.out⟩ d0 d1 e0 e1 hsz2
              · exact gb_trans hgw (gb_trans (gb_set _ _ _ _) (gb_set _ _ _ _))
        · have hr := HN.out (.inl rfl)
          have HR := Lib.hid hr
          clear hr HN HY
          go_wp2
          go_ret
          refine ⟨low, rfl, Nat.le_refl _, hlh, ?_, ?_, ?_⟩
          · intro v' l' h; rw [HR.out] at h; cases h
          · rw [HR.out]
            exact st_mk _ _ none rfl d0 d1 e0 e1 hsz2
          · exact gb_trans hgw (gb_trans (gb_set _ _ _ _) (gb_set _ _ _ _))
end Go.Proofs.YtdaadoiedaplaaaDoor
