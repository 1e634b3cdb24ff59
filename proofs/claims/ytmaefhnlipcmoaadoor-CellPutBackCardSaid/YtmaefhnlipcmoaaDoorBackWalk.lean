/- The law CellPutBack: the walk. Conditions: what the row's reach gives; Go's two tables of utf8. -/
import Derived.Test.YtmaefhnlipcmoaaDoorHolds
import Derived.Test.YtmaefhnlipcmoaaDoorAlv
namespace Go.Proofs.YtmaefhnlipcmoaaDoor
open Go.RowKit
theorem members_ne (n m : Nat) (An : Option Addr) (cn : Nat) (A : Option Addr) (c : Nat) (w : World) (h : n ≠ m) :
    Calls Tryd.prog 12 #[.slice An n cn, .slice A m c] w fun e w' => PutPost w [] 2 e w' := by
  unfold PutPost
  have hb0 : Below w.heap.size w (w.alloc (.cells #[.slice An n cn] 22)) := (Below.refl _ _).alloc (Nat.le_refl _) _
  have hv0 : (w.alloc (.cells #[.slice An n cn] 22)).cell? ⟨w.heap.size, 0, none⟩ = some (.slice An n cn) := by simp only [World.cell?, heap_alloc_new]; rfl
  have hI : ((n : Int) != m) = true := bne_iff_ne.2 (by omega)
  go_enter Tryd.func12, Tryd.ntmps12
  go_wp2
  go_ret2
  exact ⟨_, rfl, World.ownsRow_nil _ _ _ _, hb0⟩
theorem putE_zero {K : Nat} {nm : Nat → ByteArray} {xss : List (List Cel)} (h : putE K nm xss = 0) : xss.length ≤ 2048 ∧ (∀ j (hj : j < xss.length), mayC xss[j] = true) ∧ mayC (putL K nm xss) = true ∧ itemsR K nm xss = putL K nm xss := by
  have hE := h
  unfold putE at h
  by_cases h1 : 2048 < xss.length
  · rw [if_pos h1] at h
    cases h
  · rw [if_neg h1] at h
    by_cases h2 : xss.all mayC = true
    · rw [if_pos h2] at h
      have h3 : mayC (putL K nm xss) = true := by
        cases g : mayC (putL K nm xss) with
        | true => rfl
        | false => rw [checkC, g] at h; cases h
      exact ⟨by omega, fun j hj => List.all_eq_true.1 h2 _ (List.getElem_mem hj), h3, by rw [itemsR, hE, if_pos rfl, putR, if_neg h1, if_pos h2]⟩
    · rw [if_neg h2] at h
      cases h
theorem members_all (ns : List ByteArray) (An : Option Addr) (cn : Nat) (A : Option Addr) (c : Nat) (xss : List (List Cel)) (w : World) {B : Nat} (hn : Rd w B An (sv ns)) (hx : Sets w B A xss) (hB : B ≤ w.heap.size) (hT : Tabs w) (hl : ∀ l ∈ xss, l.length ≤ maxLen) (hw : ∀ l ∈ xss, ∀ c ∈ l, CelW maxLen c)
    (hns : ∀ n ∈ ns, n.size ≤ maxLen) (hxl : xss.length ≤ maxLen) :
    ∃ (R : List Cel) (V : Int), Calls Tryd.prog 12 #[.slice An ns.length cn, .slice A xss.length c] w (fun e w' => PutPost w R V e w') ∧
      ((V ≠ 0 ∧ R = []) ∨ (V = 0 ∧ R = putL 7 (nmL ns) xss ∧ mayC R = true ∧ (∀ j (hj : j < xss.length), mayC xss[j] = true) ∧ ns.length = xss.length)) := by
  by_cases h : ns.length = xss.length
  · refine ⟨_, _, members_any ns An cn A c xss w hn hx hB hT hl hw hns h hxl, ?_⟩
    by_cases hE : putE 7 (nmL ns) xss = 0
    · obtain ⟨_, h1, h2, h3⟩ := putE_zero hE
      exact .inr ⟨hE, h3, by rw [h3]; exact h2, h1, h⟩
    · exact .inl ⟨hE, by rw [itemsR, if_neg hE]⟩
  · exact ⟨_, _, members_ne _ _ An cn A c w h, .inl ⟨by decide, rfl⟩⟩
theorem items_all (A : Option Addr) (c : Nat) (xss : List (List Cel)) (w : World) {B : Nat} (hx : Sets w B A xss) (hB : B ≤ w.heap.size) (hT : Tabs w) (hl : ∀ l ∈ xss, l.length ≤ maxLen) (hw : ∀ l ∈ xss, ∀ c ∈ l, CelW maxLen c) :
    ∃ (R : List Cel) (V : Int), Calls Tryd.prog 10 #[.slice A xss.length c] w (fun e w' => PutPost w R V e w') ∧
      ((V ≠ 0 ∧ R = []) ∨ (V = 0 ∧ R = putL 6 nmE xss ∧ mayC R = true ∧ ∀ j (hj : j < xss.length), mayC xss[j] = true)) := by
  refine ⟨_, _, items_any A c xss w hx hB hT hl hw, ?_⟩
  by_cases hE : putE 6 nmE xss = 0
  · obtain ⟨_, h1, h2, h3⟩ := putE_zero hE
    exact .inr ⟨hE, h3, by rw [h3]; exact h2, h1⟩
  · exact .inl ⟨hE, by rw [itemsR, if_neg hE]⟩
theorem holds1 {xss : List (List Cel)} {R : List Cel} (hR : R = putL 6 nmE xss) (hm : mayC R = true) (hall : ∀ j (hj : j < xss.length), mayC xss[j] = true) (Av A : Option Addr) (cw c : Nat) (w : World) {B : Nat} (hIn : In R Av w w.heap.size) (h1 : R.length ≤ cw) (h2 : cw ≤ maxLen) (hx : Sets w B A xss) (hB : B ≤ w.heap.size) :
    Calls Tryd.prog 32 #[.slice Av R.length cw, .slice A xss.length c, .slice none 0 0] w fun e w' => e = .returned (.bool true) ∧ Below w.heap.size w w' :=
  holds_any 6 nmE hR.symm Av A none cw c 0 [] w hIn h1 h2 hx hB (B3 := 0) (.inl rfl) (Nat.zero_le _) hm hall (.inl rfl)
theorem holds2 {xss : List (List Cel)} {ns : List ByteArray} {R : List Cel} (hR : R = putL 7 (nmL ns) xss) (hm : mayC R = true) (hall : ∀ j (hj : j < xss.length), mayC xss[j] = true) (hl : ns.length = xss.length) (Av A An : Option Addr) (cw c cn : Nat) (w : World) {B : Nat} (hIn : In R Av w w.heap.size) (h1 : R.length ≤ cw) (h2 : cw ≤ maxLen) (hx : Sets w B A xss) (hB : B ≤ w.heap.size) (hn : Rd w B An (sv ns)) :
    Calls Tryd.prog 32 #[.slice Av R.length cw, .slice A xss.length c, .slice An ns.length cn] w fun e w' => e = .returned (.bool true) ∧ Below w.heap.size w w' :=
  holds_any 7 (nmL ns) hR.symm Av A An cw c cn ns w hIn h1 h2 hx hB hn hB hm hall (.inr ⟨rfl, rfl, hl⟩)
theorem nmL_size {ns : List ByteArray} (h : ∀ n ∈ ns, n.size ≤ maxLen) (i : Nat) : (nmL ns i).size ≤ maxLen := by
  unfold nmL
  rw [List.getD_eq_getElem?_getD]
  cases g : ns[i]? with
  | none => simp [e0, ByteArray.size]
  | some s => exact h s (List.mem_of_getElem? g)
set_option maxRecDepth 100000 in
set_option maxHeartbeats 8000000 in
theorem back_walk (ns : List ByteArray) (An : Option Addr) (cn : Nat) (xss : List (List Cel)) (A : Option Addr) (c : Nat) (w : World) (hn : Rd w w.heap.size An (sv ns)) (hx : Sets w w.heap.size A xss) (hl : ∀ l ∈ xss, l.length ≤ maxLen) (hw : ∀ l ∈ xss, ∀ c ∈ l, CelW maxLen c) (hns : ∀ n ∈ ns, n.size ≤ maxLen) (hxl : xss.length ≤ maxLen) (hT : Tabs w) :
    Calls Tryd.prog 6 #[.slice An ns.length cn, .slice A xss.length c] w fun e w' => e = .returned (.bool true) ∧ Below w.heap.size w w' := by
  have al := alive_any w hT
  by_cases h20 : (20 : Int) < xss.length
  · clear hn hx hl hw hns hxl
    go_enter Tryd.func6, Tryd.ntmps6
    go_wp2_with fail
    refine al.mono ?_
    rintro e w1 ⟨rfl, hb1⟩
    go_wp2
    go_ret
    exact ⟨rfl, hb1⟩
  · by_cases h100 : (100 : Int) < ns.length
    · clear hn hx hl hw hns hxl
      go_enter Tryd.func6, Tryd.ntmps6
      go_wp2_with fail
      refine al.mono ?_
      rintro e w1 ⟨rfl, hb1⟩
      go_wp2
      go_ret
      exact ⟨rfl, hb1⟩
    · obtain ⟨m, hm⟩ : ∃ m, xss.length = m := ⟨_, rfl⟩
      obtain ⟨k0, hk0⟩ : ∃ k0, ns.length = k0 := ⟨_, rfl⟩
      have H := Lib.hid (And.intro hn (And.intro hx (And.intro hl (And.intro hw (And.intro hns (And.intro hxl (And.intro hT (And.intro hm hk0))))))))
      rw [hm] at h20
      rw [hk0] at h100
      rw [hm, hk0]
      have h20I : decide ((20 : Int) < m) = false := decide_eq_false h20
      have h100I : decide ((100 : Int) < k0) = false := decide_eq_false h100
      have hm20 : m ≤ 20 := by omega
      clear hn hx hl hw hns hxl hT hm hk0
      go_enter Tryd.func6, Tryd.ntmps6
      go_wp2_with fail
      refine al.mono ?_
      rintro e w1 ⟨rfl, hb1⟩
      clear al
      go_wp2
      go_loopw [6] (fun vi wr => ∃ k : Nat, k ≤ m ∧ vi = .int .i64 k ∧ Below w1.heap.size w1 wr) (fun vi _ => m - (intOf vi).toNat)
      case atStart => exact ⟨0, Nat.zero_le _, rfl, Below.refl _ _⟩
      case round =>
        obtain ⟨k, hk, rfl, hbr⟩ := hrel
        have bw := hb1.trans (hbr.mono hb1.size)
        obtain ⟨hn, hx, hl, hw, hns, hxl, hT, hm, hk0⟩ := H.out
        by_cases hlt : k < m
        · have hkx : k < xss.length := by omega
          obtain ⟨b, off, A', c', hA, hbB, hcell, hrd⟩ := (hx.thru bw (Nat.le_refl _)).at' hkx
          subst hA
          have hlk := hl _ (List.getElem_mem hkx)
          have g := great_ref A' c' 100 wr hrd hlk (by omega)
          obtain ⟨x, hxe⟩ : ∃ x, xss[k] = x := ⟨_, rfl⟩
          rw [hxe] at hcell g
          obtain ⟨V, hV⟩ : ∃ V, greatC x 100 = V := ⟨_, rfl⟩
          rw [hV] at g
          have hkI : (k : Int) < m := by omega
          clear hn hx hl hw hns hxl hT hm hk0 hrd hxe hV hlk
          go_wp2_with fail
          refine g.mono ?_
          rintro e w2 ⟨rfl, rfl⟩
          clear g
          cases V with
          | true =>
            go_wp2
            go_ret
            exact ⟨rfl, bw⟩
          | false =>
            go_wp2
            go_roundw
            case rel => exact ⟨k + 1, hlt, by go_num, hbr⟩
            case measure => simp [intOf]; omega
        · have hkm : m = k := by omega
          subst hkm
          have hltd : decide ((m : Int) < m) = false := by simp
          have hml : xss.length ≤ 2048 := by omega
          obtain ⟨R, V, hit, hc1⟩ := items_all A c xss wr (hx.thru bw (Nat.le_refl _)) bw.size (hT.below bw) hl hw
          unfold PutPost at hit
          rw [hm] at hit
          have HC1 := Lib.hid hc1
          have HML := Lib.hid hml
          clear hn hx hl hw hns hxl hT hm hk0 hc1 hml
          go_wp2_with fail
          refine hit.mono ?_
          rintro e u1 ⟨v1, rfl, ho1, hd1⟩
          clear hit
          have bu1 := bw.trans (hd1.mono bw.size)
          obtain ⟨A1, k1, rfl, hk1, hk1m⟩ := own_slice ho1
          have HO1 := Lib.hid ho1
          clear ho1
          obtain ⟨hn, hx, hl, hw, hns, hxl, hT, hm, hk0⟩ := H.out
          obtain ⟨R2, V2, hme, hc2⟩ := members_all ns An cn A c xss u1 (hn.thru bu1 (Nat.le_refl _)) (hx.thru bu1 (Nat.le_refl _)) bu1.size (hT.below bu1) hl hw hns hxl
          unfold PutPost at hme
          rw [hm, hk0] at hme
          have HC2 := Lib.hid hc2
          clear hn hx hl hw hns hxl hT hm hk0 hc2
          go_wp2_with fail
          refine hme.mono ?_
          rintro e u2 ⟨v2, rfl, ho2, hd2⟩
          clear hme
          have bu2 := bu1.trans (hd2.mono bu1.size)
          obtain ⟨A2, k2, rfl, hk2, hk2m⟩ := own_slice ho2
          have HO2 := Lib.hid ho2
          clear ho2
          have G1 : ∀ (_ : V = 0) (hR : R = putL 6 nmE xss) (hmR : mayC R = true) (hall : ∀ j (hj : j < xss.length), mayC xss[j] = true) W, Below u2.heap.size u2 W → Calls Tryd.prog 32 #[.slice A1 R.length k1, .slice A m c, .slice none 0 0] W fun e w' => e = .returned (.bool true) ∧ Below W.heap.size W w' := fun _ hR hmR hall W q => by
            obtain ⟨hn, hx, hl, hw, hns, hxl, hT, hm, hk0⟩ := H.out
            have bW := bu2.trans (q.mono bu2.size)
            have ho := own_below (own_below HO1.out hd2 (own_lt HO1.out)) q (own_lt (own_below HO1.out hd2 (own_lt HO1.out)))
            have hwf : ∀ c ∈ R, CelW maxLen c := by rw [hR]; exact putL_wf hw (by omega) (fun i => by simp [nmE, e0, ByteArray.size]) HML.out
            have := holds1 hR hmR hall A1 A k1 c W ⟨rd_ofK2 ho, Nat.le_refl _, Nat.le_trans hk1 hk1m, hT.below bW, hwf⟩ hk1 hk1m (hx.thru bW (Nat.le_refl _)) bW.size
            rwa [hm] at this
          have G2 : ∀ (_ : V2 = 0) (hR : R2 = putL 7 (nmL ns) xss) (hmR : mayC R2 = true) (hall : ∀ j (hj : j < xss.length), mayC xss[j] = true) (he : ns.length = xss.length) W, Below u2.heap.size u2 W → Calls Tryd.prog 32 #[.slice A2 R2.length k2, .slice A m c, .slice An k0 cn] W fun e w' => e = .returned (.bool true) ∧ Below W.heap.size W w' := fun _ hR hmR hall he W q => by
            obtain ⟨hn, hx, hl, hw, hns, hxl, hT, hm, hk0⟩ := H.out
            have bW := bu2.trans (q.mono bu2.size)
            have ho := own_below HO2.out q (own_lt HO2.out)
            have hwf : ∀ c ∈ R2, CelW maxLen c := by rw [hR]; exact putL_wf hw (by omega) (nmL_size hns) HML.out
            have := holds2 hR hmR hall he A2 A An k2 c cn W ⟨rd_ofK2 ho, Nat.le_refl _, Nat.le_trans hk2 hk2m, hT.below bW, hwf⟩ hk2 hk2m (hx.thru bW (Nat.le_refl _)) bW.size (hn.thru bW (Nat.le_refl _))
            rwa [hm, hk0] at this
          clear HO1 HO2
          rcases HC1.out with ⟨hV, hR⟩ | ⟨hV, hR, hmR, hall⟩
          · have v1 : (V != 0) = true := bne_iff_ne.2 hV
            have hRl : R.length = 0 := by rw [hR]; rfl
            rcases HC2.out with ⟨hV2, hR2⟩ | ⟨hV2, hR2, hmR2, hall2, he2⟩
            · have v2 : (V2 != 0) = true := bne_iff_ne.2 hV2
              have hRl2 : R2.length = 0 := by rw [hR2]; rfl
              clear hV hR hV2 hR2 G1 G2 HC1 HC2
              go_wp2
              go_ret
              exact ⟨rfl, bu2⟩
            · have g2 := G2 hV2 hR2 hmR2 hall2 he2 u2 (Below.refl _ _)
              subst hV2
              clear hV hR hR2 hmR2 hall2 he2 G1 G2 HC1 HC2
              go_wp2_with fail
              refine g2.mono ?_
              rintro e u3 ⟨rfl, hd3⟩
              go_wp2
              go_ret
              exact ⟨rfl, bu2.trans (hd3.mono bu2.size)⟩
          · have g1 := G1 hV hR hmR hall u2 (Below.refl _ _)
            subst hV
            rcases HC2.out with ⟨hV2, hR2⟩ | ⟨hV2, hR2, hmR2, hall2, he2⟩
            · have v2 : (V2 != 0) = true := bne_iff_ne.2 hV2
              have hRl2 : R2.length = 0 := by rw [hR2]; rfl
              clear hR hmR hall hV2 hR2 G1 G2 HC1 HC2
              go_wp2_with fail
              refine g1.mono ?_
              rintro e u3 ⟨rfl, hd3⟩
              go_wp2
              go_ret
              exact ⟨rfl, bu2.trans (hd3.mono bu2.size)⟩
            · have g2 := G2 hV2 hR2 hmR2 hall2 he2
              subst hV2
              clear hR hmR hall hR2 hmR2 hall2 he2 G1 G2 HC1 HC2
              go_wp2_with fail
              refine g1.mono ?_
              rintro e u3 ⟨rfl, hd3⟩
              have bu3 := bu2.trans (hd3.mono bu2.size)
              have g3 := g2 u3 hd3
              clear g2
              go_wp2_with fail
              refine g3.mono ?_
              rintro e u4 ⟨rfl, hd4⟩
              go_wp2
              go_ret
              exact ⟨rfl, bu3.trans (hd4.mono bu3.size)⟩
end Go.Proofs.YtmaefhnlipcmoaaDoor
