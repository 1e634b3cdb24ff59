/- The law TableBack: it answers true. Conditions: Go's two tables of utf8. -/
import Derived.Test.YtcgioepbooafcaaDoorMOrder
namespace Go.Proofs.YtcgioepbooafcaaDoor
open Go.RowKit
theorem get_post {y : RecC} {b : Bool} {w : World} {e : Ending} {w' : World} (h : GetPost y b w e w') : ∃ A c, e = .returned (.tuple #[.agg #[.string y.id, .slice A y.data.length c], .bool b]) ∧ w'.ownsRow w.heap.size 60 5 (.slice A y.data.length c) y.data.length (cv y.data) ∧ Below w.heap.size w w' := h
theorem pair_new {w w' : World} {v0 v1 : Value} {T : TypeId} (q : Below (w.alloc (.cells #[v0, v1] T)).heap.size (w.alloc (.cells #[v0, v1] T)) w') : Pair2 w' w.heap.size v0 v1 := (Pair2.new w v0 v1 T).below q (by simp)
theorem Four.lt {W : World} {b : Nat} {v0 v1 v2 v3 : Value} (h : Four W b v0 v1 v2 v3) : b < W.heap.size := World.block_lt_of_cell? _ _ h.c0
theorem Pair2.lt {W : World} {b : Nat} {v0 v1 : Value} (h : Pair2 W b v0 v1) : b < W.heap.size := World.block_lt_of_cell? _ _ h.1
theorem back_law (t : TabC) (r : RecC) (s : ByteArray) : if (putT t r).2 = 0 then checkT (putT t r).1 = 0 ∧ getT (putT t r).1 r.id = some r ∧ dropT (putT t r).1 r.id = (t, 0) ∧ putT (putT t r).1 r = (zeroT, 271) ∧ (s ≠ r.id → getT (putT t r).1 s = getT t s) else (putT t r).1 = zeroT := by
  simp only [putT_eq, getT_eq, dropT_eq]
  split
  · rename_i h
    obtain ⟨h1, h2, h3, h4, h5⟩ := Tb.back (O := ordC) (t := t) (x := (Tb.put ordC t r).1) (r := r) (by rw [← h]) s
    exact ⟨checkT_of h1, h2, h3, h4, h5⟩
  · rename_i h
    exact Tb.put_bad (O := ordC) (t := t) (r := r) rfl h
set_option maxRecDepth 100000 in
set_option maxHeartbeats 32000000 in
theorem back_any (t : TabC) (a : RecC) (s : ByteArray) (Au : Option Addr) (cu : Nat) (Ar : Option Addr) (cr : Nat) (Aa : Option Addr) (ca : Nat) (w : World) (ht : InT w t Au Ar) (ha : InR w a Aa ca) (hT : Tabs w) :
    Calls Tryd.prog 5 #[.agg #[.string t.name, .int .i64 t.most, .slice Au t.us.length cu, .slice Ar t.rows.length cr], .agg #[.string a.id, .slice Aa a.data.length ca], .string s] w fun e w' => e = .returned (.bool true) ∧ Below w.heap.size w w' := by
  obtain ⟨W1, hW1⟩ : ∃ W1, W1 = (w.alloc (.cells #[.string t.name, .int .i64 t.most, .slice Au t.us.length cu, .slice Ar t.rows.length cr] 25)).alloc (.cells #[.string a.id, .slice Aa a.data.length ca] 28) := ⟨_, rfl⟩
  have hz : W1.heap.size = w.heap.size + 1 + 1 := by rw [hW1]; simp
  have h01 : Below w.heap.size w W1 := by rw [hW1]; exact ((Below.refl _ _).alloc (Nat.le_refl _) _).alloc (by simp) _
  have kt : ∀ W, Below W1.heap.size W1 W → Four W w.heap.size (.string t.name) (.int .i64 t.most) (.slice Au t.us.length cu) (.slice Ar t.rows.length cr) := fun W q => by
    refine Four.below (W := W1) ?_ q (by omega)
    rw [hW1]
    exact (Four.new w _ _ _ _ _).grown (World.grownBy_alloc _ _ none) (by simp)
  have ka : ∀ W, Below W1.heap.size W1 W → Pair2 W (w.heap.size + 1) (.string a.id) (.slice Aa a.data.length ca) := fun W q => by
    refine Pair2.below (W := W1) ?_ q (by omega)
    have g := Pair2.new (w.alloc (.cells #[.string t.name, .int .i64 t.most, .slice Au t.us.length cu, .slice Ar t.rows.length cr] 25)) (.string a.id) (.slice Aa a.data.length ca) 28
    rw [hW1]
    simpa using g
  have dW : ∀ W, Below W1.heap.size W1 W → Below w.heap.size w W := fun W q => h01.trans (q.mono h01.size)
  have cl := alive_any W1 (hT.below h01)
  have cg := fun W (q : Below W1.heap.size W1 W) => great_t t Au cu Ar cr W (ht.us.thru (dW W q) (Nat.le_refl _)) (ht.rows.thru (dW W q) (Nat.le_refl _)) (dW W q).size ht.ul ht.rl
  have cga := fun W (q : Below W1.heap.size W1 W) => great_rec a Aa ca W (ha.rd.rd.thru (dW W q) (Nat.le_refl _)) (dW W q).size (Nat.le_trans ha.rd.cap ha.rd.cm)
  have KT := Lib.hid kt
  have KA := Lib.hid ka
  have DW := Lib.hid dW
  have HI := Lib.hid (And.intro ht (And.intro ha hT))
  obtain ⟨GT, hGT⟩ : ∃ G, greatT t = G := ⟨_, rfl⟩
  obtain ⟨GA, hGA⟩ : ∃ G, greatR a = G := ⟨_, rfl⟩
  simp only [hGT] at cg
  simp only [hGA] at cga
  have CG := Lib.hid cg
  have CGA := Lib.hid cga
  have HG := Lib.hid (And.intro hGT hGA)
  have tooB : ∀ W, Below W1.heap.size W1 W → Below w.heap.size w W := dW
  clear ht ha hT kt ka dW cg cga hGT hGA hz tooB
  have DB := Lib.hid h01
  clear h01
  subst hW1
  go_enter Tryd.func5, Tryd.ntmps5
  go_wp2_with fail
  refine cl.mono ?_
  rintro e w1 ⟨rfl, q1⟩
  clear cl
  obtain ⟨t10, t11, t12, t13, _⟩ := KT.out w1 q1
  have c := CG.out w1 q1
  go_wp2_with fail
  refine c.mono ?_
  rintro e w2 ⟨rfl, hb2⟩
  clear c t10 t11 t12 t13
  have q2 := q1.trans (hb2.mono q1.size)
  cases GT with
  | true =>
    go_wp2
    go_ret
    exact ⟨rfl, DW.out _ q2⟩
  | false =>
  obtain ⟨a20, a21⟩ := KA.out w2 q2
  have c := CGA.out w2 q2
  go_wp2_with fail
  refine c.mono ?_
  rintro e w4 ⟨rfl, hb3⟩
  clear c a20 a21
  have q4 := q2.trans (hb3.mono q2.size)
  cases GA with
  | true =>
    go_wp2
    go_ret
    exact ⟨rfl, DW.out _ q4⟩
  | false =>
  by_cases hsl : 300 < s.size
  · have hslI : decide ((300 : Int) < s.size) = true := by simp; omega
    go_wp2
    go_ret
    exact ⟨rfl, DW.out _ q4⟩
  have hslI : decide ((300 : Int) < s.size) = false := by simp; omega
  obtain ⟨hGT, hGA⟩ := HG.out
  obtain ⟨ht, ha, hT⟩ := HI.out
  have hK := ht.tabK hGT
  have wa := ha.recW hGA
  have dT : ∀ W, Below w.heap.size w W → Tabs W := fun W q => hT.below q
  have tI := fun W (q : Below w.heap.size w W) => (ht.tabIn hT hK (by omega)).below q
  have law := back_law t a s
  have kX := putT_K hK wa
  have p1 := fun W (q : Below w.heap.size w W) => put_t t a Au cu Ar cr Aa ca W (tI W q) (hK.tabW (by omega)) (ha.rd.thru q (Nat.le_refl _)) q.size wa
  obtain ⟨x, hx⟩ : ∃ x, (putT t a).1 = x := ⟨_, rfl⟩
  obtain ⟨e1, he1⟩ : ∃ e, (putT t a).2 = e := ⟨_, rfl⟩
  rw [hx] at law kX
  rw [he1] at law
  simp only [hx, he1] at p1
  unfold ResPost at p1
  clear hx he1
  obtain ⟨t40, t41, t42, t43, _⟩ := KT.out w4 q4
  obtain ⟨a40, a41⟩ := KA.out w4 q4
  have c := p1 w4 (DW.out _ q4)
  by_cases he : e1 = 0
  case neg =>
    rw [if_neg he] at law
    subst law
    have he2 : (e1 == 0) = false := by simp [he]
    clear ht ha hT hK wa dT tI kX p1 hGT hGA
    go_wp2_with fail
    refine c.mono ?_
    rintro e w5 ⟨Au5, cu5, Ar5, cr5, rfl, f5, hb5⟩
    clear f5 c t40 t41 t42 t43 a40 a41
    change Below _ _ _ at hb5
    have q5 := q4.trans (hb5.mono q4.size)
    have n50 := fun (v0 v1 v2 v3 : Value) (T : TypeId) => (Four.new w5 v0 v1 v2 v3 T).c0
    have n51 := fun (v0 v1 v2 v3 : Value) (T : TypeId) => (Four.new w5 v0 v1 v2 v3 T).c1
    have n52 := fun (v0 v1 v2 v3 : Value) (T : TypeId) => (Four.new w5 v0 v1 v2 v3 T).c2
    have n53 := fun (v0 v1 v2 v3 : Value) (T : TypeId) => (Four.new w5 v0 v1 v2 v3 T).c3
    have fin := fun (o : Obj) => DW.out _ (q5.alloc q5.size o)
    unfold zeroT
    go_wp2
    go_ret
    exact ⟨rfl, fin _⟩
  case pos =>
  subst he
  rw [if_pos rfl] at law
  obtain ⟨l1, l2, l3, l4, l5⟩ := law
  have kX9 := kX.tabW (by omega)
  have xI := fun (W5 W : World) (base : Nat) (Au5 : Option Addr) (cu5 : Nat) (Ar5 : Option Addr) (cr5 : Nat) (f : FreshT W5 base x Au5 Ar5 cu5 cr5) (q5 : Below w.heap.size w W5) (q : Below W5.heap.size W5 W) => (f.tabIn (dT W5 q5) kX9).below q
  have pGX := fun (W5 W : World) (base : Nat) (Au5 : Option Addr) (cu5 : Nat) (Ar5 : Option Addr) (cr5 : Nat) (f : FreshT W5 base x Au5 Ar5 cu5 cr5) (q5 : Below w.heap.size w W5) (q : Below W5.heap.size W5 W) => get_t x a.id Au5 cu5 Ar5 cr5 W (xI _ _ _ _ _ _ _ f q5 q) kX9
  have pTS := fun W (q : Below w.heap.size w W) => get_t t s Au cu Ar cr W (tI W q) (hK.tabW (by omega))
  have pXS := fun (W5 W : World) (base : Nat) (Au5 : Option Addr) (cu5 : Nat) (Ar5 : Option Addr) (cr5 : Nat) (f : FreshT W5 base x Au5 Ar5 cu5 cr5) (q5 : Below w.heap.size w W5) (q : Below W5.heap.size W5 W) => get_t x s Au5 cu5 Ar5 cr5 W (xI _ _ _ _ _ _ _ f q5 q) kX9
  have pDX := fun (W5 W : World) (base : Nat) (Au5 : Option Addr) (cu5 : Nat) (Ar5 : Option Addr) (cr5 : Nat) (f : FreshT W5 base x Au5 Ar5 cu5 cr5) (q5 : Below w.heap.size w W5) (q : Below W5.heap.size W5 W) => drop_t x a.id Au5 cu5 Ar5 cr5 W (xI _ _ _ _ _ _ _ f q5 q) kX9
  have pPX := fun (W5 W : World) (base : Nat) (Au5 : Option Addr) (cu5 : Nat) (Ar5 : Option Addr) (cr5 : Nat) (f : FreshT W5 base x Au5 Ar5 cu5 cr5) (q5 : Below w.heap.size w W5) (q : Below W5.heap.size W5 W) => put_t x a Au5 cu5 Ar5 cr5 Aa ca W (xI _ _ _ _ _ _ _ f q5 q) kX9 (ha.rd.thru (q5.trans (q.mono q5.size)) (Nat.le_refl _)) (q5.trans (q.mono q5.size)).size wa
  have pCX := fun (W5 W : World) (base : Nat) (Au5 : Option Addr) (cu5 : Nat) (Ar5 : Option Addr) (cr5 : Nat) (f : FreshT W5 base x Au5 Ar5 cu5 cr5) (q5 : Below w.heap.size w W5) (q : Below W5.heap.size W5 W) => check_t x Au5 cu5 Ar5 cr5 W (xI _ _ _ _ _ _ _ f q5 q) kX9.uz
  have pSR := fun (W6 W : World) (base : Nat) (A6 : Option Addr) (c6 : Nat) (o : W6.ownsRow base 60 5 (.slice A6 a.data.length c6) a.data.length (cv a.data)) (q6 : Below w.heap.size w W6) (q : Below W6.heap.size W6 W) => same_rec a a A6 Aa c6 ca W ((rd_ofK2 o).thru q (Nat.le_refl _)) (ha.rd.rd.thru (q6.trans (q.mono q6.size)) (Nat.le_refl _)) q.size (q6.trans (q.mono q6.size)).size (by have := wa.len; omega)
  have pST := fun (W5 W : World) (base : Nat) (Au5 : Option Addr) (cu5 : Nat) (Ar5 : Option Addr) (cr5 : Nat) (f : FreshT W5 base t Au5 Ar5 cu5 cr5) (q5 : Below w.heap.size w W5) (q : Below W5.heap.size W5 W) => same_t t t Au5 cu5 Ar5 cr5 Au cu Ar cr W ((f.tabIn (dT W5 q5) (hK.tabW (by omega))).below q) (tI W (q5.trans (q.mono q5.size)))
  simp only [l1] at pCX
  simp only [l2, Option.getD_some, Option.isSome_some] at pGX
  simp only [l3] at pDX
  simp only [l4] at pPX
  simp only [(sameR_iff _ _).2 rfl] at pSR
  simp only [(sameT_iff _ _).2 rfl] at pST
  have wy : ∀ id, RecW ((getT t id).getD zeroR) := fun id => getT_W hK
  obtain ⟨y, hy⟩ : ∃ y, (getT t s).getD zeroR = y := ⟨_, rfl⟩
  obtain ⟨z, hzz⟩ : ∃ y, (getT x s).getD zeroR = y := ⟨_, rfl⟩
  obtain ⟨by1, hby⟩ : ∃ b, (getT t s).isSome = b := ⟨_, rfl⟩
  obtain ⟨bz, hbz⟩ : ∃ b, (getT x s).isSome = b := ⟨_, rfl⟩
  simp only [hy, hby] at pTS
  simp only [hzz, hbz] at pXS
  have lyz : s ≠ a.id → z = y ∧ bz = by1 := fun h => ⟨by rw [← hzz, ← hy, l5 h], by rw [← hbz, ← hby, l5 h]⟩
  have wyy : RecW y := by rw [← hy]; exact wy s
  have pSY := fun (W7 W8 W : World) (base base8 : Nat) (A7 : Option Addr) (c7 : Nat) (A8 : Option Addr) (c8 : Nat) (o7 : W7.ownsRow base 60 5 (.slice A7 y.data.length c7) y.data.length (cv y.data)) (o8 : W8.ownsRow base8 60 5 (.slice A8 y.data.length c8) y.data.length (cv y.data)) (q7 : Below W7.heap.size W7 W) (q8 : Below W8.heap.size W8 W) => same_rec y y A7 A8 c7 c8 W ((rd_ofK2 o7).thru q7 (Nat.le_refl _)) ((rd_ofK2 o8).thru q8 (Nat.le_refl _)) q7.size q8.size (by have := wyy.len; omega)
  simp only [(sameR_iff _ _).2 rfl] at pSY
  unfold ResPost at pDX pPX
  unfold GetPost at pGX pTS pXS
  have PGX := Lib.hid pGX
  have PTS := Lib.hid pTS
  have PXS := Lib.hid pXS
  have PDX := Lib.hid pDX
  have PPX := Lib.hid pPX
  have PCX := Lib.hid pCX
  have PSR := Lib.hid pSR
  have PST := Lib.hid pST
  have PSY := Lib.hid pSY
  have LYZ := Lib.hid lyz
  clear ht ha hT hK wa dT tI kX kX9 xI p1 hGT hGA l1 l2 l3 l4 l5 pGX pTS pXS pDX pPX pCX pSR pST pSY lyz wy wyy hy hzz hby hbz
  go_wp2_with fail
  refine c.mono ?_
  rintro e w5 ⟨Au5, cu5, Ar5, cr5, rfl, f5, hb5⟩
  clear c t40 t41 t42 t43 a40 a41
  have q5 := q4.trans (hb5.mono q4.size)
  have d5 := DW.out _ q5
  have F5 := Lib.hid f5
  clear f5
  have v5_5 := Below.refl w5.heap.size w5
  have n50 := fun (v0 v1 v2 v3 : Value) (T : TypeId) => (Four.new w5 v0 v1 v2 v3 T).c0
  have n51 := fun (v0 v1 v2 v3 : Value) (T : TypeId) => (Four.new w5 v0 v1 v2 v3 T).c1
  have n52 := fun (v0 v1 v2 v3 : Value) (T : TypeId) => (Four.new w5 v0 v1 v2 v3 T).c2
  have n53 := fun (v0 v1 v2 v3 : Value) (T : TypeId) => (Four.new w5 v0 v1 v2 v3 T).c3
  have a50 := fun (o : Obj) => (KA.out (w5.alloc o) (q5.alloc q5.size o)).1
  have a51 := fun (o : Obj) => (KA.out (w5.alloc o) (q5.alloc q5.size o)).2
  have c := fun (o : Obj) => PGX.out w5 (w5.alloc o) _ _ _ _ _ F5.out d5 (v5_5.alloc v5_5.size o)
  go_wp2_with fail
  refine (c _).mono ?_
  rintro e w6 ⟨A6, c6, rfl, o6, hb6⟩
  clear c n50 n51 n52 n53 a50 a51
  have u6 : Below w5.heap.size w5 w6 := ((Below.refl _ _).alloc (Nat.le_refl _) _).trans (hb6.mono (by simp))
  have q6 := q5.trans (u6.mono q5.size)
  have d6 := DW.out _ q6
  have y6 := four_new hb6
  have HY6 := Lib.hid (fun (W : World) (q : Below w6.heap.size w6 W) => y6.below q y6.lt)
  clear y6
  have v5_6 := v5_5.trans (u6.mono v5_5.size)
  have v6_6 := Below.refl w6.heap.size w6
  have O6 := Lib.hid o6
  clear o6
  have t60 := fun (o : Obj) => (KT.out (w6.alloc o) (q6.alloc q6.size o)).c0
  have t61 := fun (o : Obj) => (KT.out (w6.alloc o) (q6.alloc q6.size o)).c1
  have t62 := fun (o : Obj) => (KT.out (w6.alloc o) (q6.alloc q6.size o)).c2
  have t63 := fun (o : Obj) => (KT.out (w6.alloc o) (q6.alloc q6.size o)).c3
  have c := fun (o : Obj) => PTS.out (w6.alloc o) (d6.alloc d6.size o)
  go_wp2_with fail
  refine (c _).mono ?_
  rintro e w7 ⟨A7, c7, rfl, o7, hb7⟩
  clear c t60 t61 t62 t63
  have u7 : Below w6.heap.size w6 w7 := ((Below.refl _ _).alloc (Nat.le_refl _) _).trans (hb7.mono (by simp))
  have q7 := q6.trans (u7.mono q6.size)
  have d7 := DW.out _ q7
  have y7 := pair_new hb7
  have HY7 := Lib.hid (fun (W : World) (q : Below w7.heap.size w7 W) => y7.below q y7.lt)
  clear y7
  have v5_7 := v5_6.trans (u7.mono v5_6.size)
  have v6_7 := v6_6.trans (u7.mono v6_6.size)
  have v7_7 := Below.refl w7.heap.size w7
  have O7 := Lib.hid o7
  clear o7
  have x70 := fun (o : Obj) => (HY6.out (w7.alloc o) (v6_7.alloc v6_7.size o)).c0
  have x71 := fun (o : Obj) => (HY6.out (w7.alloc o) (v6_7.alloc v6_7.size o)).c1
  have x72 := fun (o : Obj) => (HY6.out (w7.alloc o) (v6_7.alloc v6_7.size o)).c2
  have x73 := fun (o : Obj) => (HY6.out (w7.alloc o) (v6_7.alloc v6_7.size o)).c3
  have c := fun (o : Obj) => PXS.out w5 (w7.alloc o) _ _ _ _ _ F5.out d5 (v5_7.alloc v5_7.size o)
  go_wp2_with fail
  refine (c _).mono ?_
  rintro e w8 ⟨A8, c8, rfl, o8, hb8⟩
  clear c x70 x71 x72 x73
  have u8 : Below w7.heap.size w7 w8 := ((Below.refl _ _).alloc (Nat.le_refl _) _).trans (hb8.mono (by simp))
  have q8 := q7.trans (u8.mono q7.size)
  have d8 := DW.out _ q8
  have y8 := pair_new hb8
  have HY8 := Lib.hid (fun (W : World) (q : Below w8.heap.size w8 W) => y8.below q y8.lt)
  clear y8
  have v5_8 := v5_7.trans (u8.mono v5_7.size)
  have v6_8 := v6_7.trans (u8.mono v6_7.size)
  have v7_8 := v7_7.trans (u8.mono v7_7.size)
  have v8_8 := Below.refl w8.heap.size w8
  have O8 := Lib.hid o8
  clear o8
  have x80 := fun (o : Obj) => (HY6.out (w8.alloc o) (v6_8.alloc v6_8.size o)).c0
  have x81 := fun (o : Obj) => (HY6.out (w8.alloc o) (v6_8.alloc v6_8.size o)).c1
  have x82 := fun (o : Obj) => (HY6.out (w8.alloc o) (v6_8.alloc v6_8.size o)).c2
  have x83 := fun (o : Obj) => (HY6.out (w8.alloc o) (v6_8.alloc v6_8.size o)).c3
  have a80 := fun (o : Obj) => (KA.out (w8.alloc o) (q8.alloc q8.size o)).1
  have a81 := fun (o : Obj) => (KA.out (w8.alloc o) (q8.alloc q8.size o)).2
  have c := fun (o : Obj) => PDX.out w5 (w8.alloc o) _ _ _ _ _ F5.out d5 (v5_8.alloc v5_8.size o)
  go_wp2_with fail
  refine (c _).mono ?_
  rintro e w9 ⟨Au9, cu9, Ar9, cr9, rfl, f9, hb9⟩
  clear c x80 x81 x82 x83 a80 a81
  have u9 : Below w8.heap.size w8 w9 := ((Below.refl _ _).alloc (Nat.le_refl _) _).trans (hb9.mono (by simp))
  have q9 := q8.trans (u9.mono q8.size)
  have d9 := DW.out _ q9
  have y9 := pair_new hb9
  have HY9 := Lib.hid (fun (W : World) (q : Below w9.heap.size w9 W) => y9.below q y9.lt)
  clear y9
  have v5_9 := v5_8.trans (u9.mono v5_8.size)
  have v6_9 := v6_8.trans (u9.mono v6_8.size)
  have v7_9 := v7_8.trans (u9.mono v7_8.size)
  have v8_9 := v8_8.trans (u9.mono v8_8.size)
  have v9_9 := Below.refl w9.heap.size w9
  have F9 := Lib.hid f9
  clear f9
  have x90 := fun (o : Obj) => (HY6.out (w9.alloc o) (v6_9.alloc v6_9.size o)).c0
  have x91 := fun (o : Obj) => (HY6.out (w9.alloc o) (v6_9.alloc v6_9.size o)).c1
  have x92 := fun (o : Obj) => (HY6.out (w9.alloc o) (v6_9.alloc v6_9.size o)).c2
  have x93 := fun (o : Obj) => (HY6.out (w9.alloc o) (v6_9.alloc v6_9.size o)).c3
  have a90 := fun (o : Obj) => (KA.out (w9.alloc o) (q9.alloc q9.size o)).1
  have a91 := fun (o : Obj) => (KA.out (w9.alloc o) (q9.alloc q9.size o)).2
  have c := fun (o : Obj) => PPX.out w5 (w9.alloc o) _ _ _ _ _ F5.out d5 (v5_9.alloc v5_9.size o)
  go_wp2_with fail
  refine (c _).mono ?_
  rintro e w10 ⟨Au10, cu10, Ar10, cr10, rfl, f10, hb10⟩
  clear c x90 x91 x92 x93 a90 a91
  have u10 : Below w9.heap.size w9 w10 := ((Below.refl _ _).alloc (Nat.le_refl _) _).trans (hb10.mono (by simp))
  have q10 := q9.trans (u10.mono q9.size)
  have d10 := DW.out _ q10
  have y10 := four_new hb10
  have HY10 := Lib.hid (fun (W : World) (q : Below w10.heap.size w10 W) => y10.below q y10.lt)
  clear y10
  have v5_10 := v5_9.trans (u10.mono v5_9.size)
  have v6_10 := v6_9.trans (u10.mono v6_9.size)
  have v7_10 := v7_9.trans (u10.mono v7_9.size)
  have v8_10 := v8_9.trans (u10.mono v8_9.size)
  have v9_10 := v9_9.trans (u10.mono v9_9.size)
  have v10_10 := Below.refl w10.heap.size w10
  clear f10
  have x100 := fun (o : Obj) => (HY6.out (w10.alloc o) (v6_10.alloc v6_10.size o)).c0
  have x101 := fun (o : Obj) => (HY6.out (w10.alloc o) (v6_10.alloc v6_10.size o)).c1
  have x102 := fun (o : Obj) => (HY6.out (w10.alloc o) (v6_10.alloc v6_10.size o)).c2
  have x103 := fun (o : Obj) => (HY6.out (w10.alloc o) (v6_10.alloc v6_10.size o)).c3
  have c := fun (o : Obj) => PCX.out w5 (w10.alloc o) _ _ _ _ _ F5.out d5 (v5_10.alloc v5_10.size o)
  go_wp2_with fail
  refine (c _).mono ?_
  rintro e w11 ⟨rfl, hb11⟩
  clear c x100 x101 x102 x103
  have u11 : Below w10.heap.size w10 w11 := ((Below.refl _ _).alloc (Nat.le_refl _) _).trans (hb11.mono (by simp))
  have q11 := q10.trans (u11.mono q10.size)
  have d11 := DW.out _ q11
  have y11 := four_new hb11
  have HY11 := Lib.hid (fun (W : World) (q : Below w11.heap.size w11 W) => y11.below q y11.lt)
  clear y11
  have v5_11 := v5_10.trans (u11.mono v5_10.size)
  have v6_11 := v6_10.trans (u11.mono v6_10.size)
  have v7_11 := v7_10.trans (u11.mono v7_10.size)
  have v8_11 := v8_10.trans (u11.mono v8_10.size)
  have v9_11 := v9_10.trans (u11.mono v9_10.size)
  have v10_11 := v10_10.trans (u11.mono v10_10.size)
  have v11_11 := Below.refl w11.heap.size w11
  have got110 := (HY7.out w11 v7_11).1
  have got111 := (HY7.out w11 v7_11).2
  have a110 := (KA.out w11 q11).1
  have a111 := (KA.out w11 q11).2
  have c := PSR.out w6 w11 _ _ _ O6.out d6 v6_11
  go_wp2_with fail
  refine c.mono ?_
  rintro e w12 ⟨rfl, hb12⟩
  clear c got110 got111 a110 a111
  have u12 : Below w11.heap.size w11 w12 := hb12
  have q12 := q11.trans (u12.mono q11.size)
  have d12 := DW.out _ q12
  have v5_12 := v5_11.trans (u12.mono v5_11.size)
  have v6_12 := v6_11.trans (u12.mono v6_11.size)
  have v7_12 := v7_11.trans (u12.mono v7_11.size)
  have v8_12 := v8_11.trans (u12.mono v8_11.size)
  have v9_12 := v9_11.trans (u12.mono v9_11.size)
  have v10_12 := v10_11.trans (u12.mono v10_11.size)
  have v11_12 := v11_11.trans (u12.mono v11_11.size)
  have v12_12 := Below.refl w12.heap.size w12
  have dr120 := (HY10.out w12 v10_12).c0
  have dr121 := (HY10.out w12 v10_12).c1
  have dr122 := (HY10.out w12 v10_12).c2
  have dr123 := (HY10.out w12 v10_12).c3
  have t120 := (KT.out w12 q12).c0
  have t121 := (KT.out w12 q12).c1
  have t122 := (KT.out w12 q12).c2
  have t123 := (KT.out w12 q12).c3
  have c := PST.out w9 w12 _ _ _ _ _ F9.out d9 v9_12
  go_wp2_with fail
  refine c.mono ?_
  rintro e w13 ⟨rfl, hb13⟩
  clear c dr120 dr121 dr122 dr123 t120 t121 t122 t123
  have u13 : Below w12.heap.size w12 w13 := hb13
  have q13 := q12.trans (u13.mono q12.size)
  have d13 := DW.out _ q13
  have v5_13 := v5_12.trans (u13.mono v5_12.size)
  have v6_13 := v6_12.trans (u13.mono v6_12.size)
  have v7_13 := v7_12.trans (u13.mono v7_12.size)
  have v8_13 := v8_12.trans (u13.mono v8_12.size)
  have v9_13 := v9_12.trans (u13.mono v9_12.size)
  have v10_13 := v10_12.trans (u13.mono v10_12.size)
  have v11_13 := v11_12.trans (u13.mono v11_12.size)
  have v12_13 := v12_12.trans (u13.mono v12_12.size)
  have v13_13 := Below.refl w13.heap.size w13
  have a130 := (KA.out w13 q13).1
  have a131 := (KA.out w13 q13).2
  have ty130 := (HY8.out w13 v8_13).1
  have ty131 := (HY8.out w13 v8_13).2
  have xy130 := (HY9.out w13 v9_13).1
  have xy131 := (HY9.out w13 v9_13).2
  by_cases hs : s = a.id
  · have hsb : (s.toList == a.id.toList) = true := by rw [hs]; simp
    have hst : s.toList = a.id.toList := by rw [hs]
    clear hs
    go_wp2
    go_ret
    exact ⟨rfl, d13⟩
  · have hst : ¬ s.toList = a.id.toList := fun e => hs (ba_ext e)
    have hsb : (s.toList == a.id.toList) = false := beq_eq_false_iff_ne.2 hst
    obtain ⟨h1, h2⟩ := LYZ.out hs
    subst h1 h2
    have c := PSY.out w7 w8 w13 _ _ _ _ _ _ O7.out O8.out v7_13 v8_13
    clear hs
    go_wp2_with fail
    refine c.mono ?_
    rintro e w14 ⟨rfl, hb14⟩
    clear c a130 a131 ty130 ty131 xy130 xy131
    go_wp2
    go_ret
    exact ⟨rfl, d13.trans (hb14.mono d13.size)⟩
end Go.Proofs.YtcgioepbooafcaaDoor
