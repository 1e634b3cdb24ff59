/- The law CellNames: the walk. Conditions: Go's two tables of utf8. -/
import Derived.Test.YtmaefhnlipcmoaaDoorCellNamesWalk
namespace Go.Proofs.YtmaefhnlipcmoaaDoor
open Go.RowKit
theorem wpList_append_keepW {P : Program} (w : World) {ops : Array Oper} {rest : List Oper} {o : Oper} {a : Act} {Q : Exit → Act → World → Prop} (hgd : Region.wanted o (yielded ops a.tmps) = true) (s x : Operand) (t : TypeId)
    (ho : o.op = .call { callee := .builtin .append, args := #[s, x], argTypes := #[t, t] })
    (base : Nat) (e : TypeId) (i : TypeInfo) (z : Value) (size bytes : Nat) (ht : P.underlying t = some (.slice e)) (hi : P.info? e = some i) (hz : i.zero = some z)
    (hsize : i.size = size) (hby : i.bytes = bytes) (hzs : z.cells.size = size) (hpos : 0 < size) (v : Value) (n : Nat) (xs : List Value) (hs : a.eval s = v) (hown : w.ownsRow base e size v n xs)
    (b off m c : Nat) (news : List Value) (hx : a.eval x = .slice (some ⟨b, off, none⟩) m c) (hr : ∀ (j : Nat) (h : j < news.length), w.cell? ⟨b, off + j, none⟩ = some news[j]) (hl : news.length = m * size) (h1 : ∀ u ∈ news, u.oneCell' = true)
    (h63 : n + m ≤ maxLen) (hbytes : (n + m) * bytes ≤ 140737488355328) (hbase : base ≤ w.heap.size)
    (h : ∀ v' w', w'.ownsRow base e size v' (n + m) (xs ++ news) → w.grownBy w' v.ownBlock → w'.ownsRow base e size v n xs → wpList P ops Q rest (a.put o.dst v') w') : wpList P ops Q (o :: rest) a w := by
  refine wpList_step fun K hK => ?_
  rw [if_pos hgd]
  have hc : ∀ j u, news[j]? = some u → w.cell? ((⟨b, off, none⟩ : Addr).add j) = some u := by
    intro j u hj
    obtain ⟨hj', rfl⟩ := List.getElem?_eq_some_iff.1 hj
    rw [Addr.add_lit]
    exact hr j hj'
  obtain ⟨v', w', hrun, r1, r2, _⟩ := run_append_own (P := P) w base t o.type e i z size bytes ht hi hz hsize hby hzs hpos v n xs hown ⟨b, off, none⟩ m c news hl hc h1 h63 hbytes hbase
  subst hsize
  subst hby
  have hk := append_keep (P := P) w base t o.type e i z ht hi hz hzs hpos v n xs hown ⟨b, off, none⟩ m c news hl hc h1 h63 hbytes hrun
  unfold Oper.wp
  simp [execOp, ho, resolve, invoke, builtin, hs, hx, hrun, Result.andThen]
  exact hK _ _ (h v' w' r1 r2 hk)
theorem new_cells (w : World) (arr : Array Value) (e : TypeId) (news : List Value) (h : arr.toList = news) : ∀ (j : Nat) (h : j < news.length), (w.alloc (.cells arr e)).cell? ⟨w.heap.size, 0 + j, none⟩ = some news[j] := by
  rcases rd_new w arr e news h with rfl | ⟨b, off, he, _, hc⟩
  · intro j hj; simp at hj
  · simp only [Option.some.injEq, Addr.mk.injEq, and_true] at he
    obtain ⟨rfl, rfl⟩ := he
    exact hc
theorem in_nil {w : World} (hT : Tabs w) : In [] none w w.heap.size :=
  ⟨.inl rfl, Nat.le_refl _, by simp, hT, by simp⟩
theorem make_two (w : World) : ∃ w' : World, (Instr.makeSlice 25 (.int .i64 2) (.int .i64 2)).run Tryd.prog w = .ok (.slice (some ⟨w.heap.size, 0, none⟩) 2 2) w' ∧
    w'.ownsRow w.heap.size 45 5 (.slice (some ⟨w.heap.size, 0, none⟩) 2 2) 2 (cv [Z0, Z0]) ∧ Below w.heap.size w w' := by
  obtain ⟨i0, hi, hz0, hz1, hz2⟩ := info_parts info_cell
  obtain ⟨w', h1, h2, h3⟩ := run_make_full (P := Tryd.prog) w w.heap.size 25 45 i0 (.agg #[.int .u8 0, .string ⟨#[]⟩, .string ⟨#[]⟩, .int .i64 0, .int .i64 0]) 5 Tryd.underlying25 hi hz0 hz1 .i64 .i64 2 (by rw [hz2]; omega) (by unfold maxLen; omega) (Nat.le_refl _)
  have hm : (madeCells (Value.agg #[.int .u8 0, .string ⟨#[]⟩, .string ⟨#[]⟩, .int .i64 0, .int .i64 0]).cells (2 * 5)).toList = cv [Z0, Z0] := by kernel_rfl
  rw [hm] at h2
  exact ⟨w', h1, h2, (Below.refl _ _).grown h3 (Nat.le_refl _) (fun k e => by cases e)⟩
set_option maxRecDepth 100000 in
set_option maxHeartbeats 4000000 in
theorem names_walk (w : World) (hT : Tabs w) : Calls Tryd.prog 4 #[] w fun e w' => e = .returned (.bool true) ∧ Below w.heap.size w w' := by
  have HT := Lib.hid hT
  clear hT
  obtain ⟨i0, hi, hz0, hz1, hz2⟩ := info_parts info_cell
  have HI := Lib.hid (And.intro hi (And.intro hz0 (And.intro hz1 hz2)))
  clear hi hz0 hz1 hz2
  go_enter Tryd.func4, Tryd.ntmps4
  go_wp2_with fail
  refine (five_any w).mono ?_
  rintro e w1 ⟨rfl, hw1⟩
  have b1 := five_below hw1
  have c1 := kids_any (some ⟨w.heap.size, 0, none⟩) 5 1 w1 (five_in hw1 HT.out) (.inl (by decide))
  rw [asked_1, kids_1] at c1
  clear hw1
  go_wp2_with fail
  refine c1.mono ?_
  rintro e w2 ⟨v1, rfl, ho1, hb2⟩
  clear c1
  simp only [List.length_nil] at ho1
  obtain ⟨Ak, ck, rfl, _, _⟩ := own_slice ho1
  clear ho1
  have b2 := b1.trans (hb2.mono b1.size)
  clear hb2 b1
  go_wp2_with fail
  refine (five_any w2).mono ?_
  rintro e w3 ⟨rfl, hw3⟩
  have b23 := five_below hw3
  have b3 := b2.trans (b23.mono b2.size)
  have c2 := member_any (some ⟨w2.heap.size, 0, none⟩) 5 0 ⟨#[99]⟩ w3 (five_in hw3 (HT.out.below b2))
  rw [mem_c] at c2
  clear hw3
  go_wp2_with fail
  refine c2.mono ?_
  rintro e w4 ⟨rfl, hb4⟩
  clear c2
  have b4 := b3.trans (hb4.mono b3.size)
  clear hb4 b3 b23 b2
  have c3 := check_any2 none 0 w4 (in_nil (HT.out.below b4))
  rw [ck_nil] at c3
  go_wp2_with fail
  refine c3.mono ?_
  rintro e w5 ⟨rfl, hb5⟩
  clear c3
  have b5 := b4.trans (hb5.mono b4.size)
  clear hb5 b4
  have c4 := check_any2 (some ⟨w5.heap.size, 0, none⟩) 1 (w5.alloc (.cells (cv [L1]).toArray 45)) (in_new (xs := [L1]) (by simp) rfl (by decide +kernel) (by decide) (HT.out.below b5))
  rw [ck_one] at c4
  go_wp2_with fail
  refine c4.mono ?_
  rintro e w6 ⟨rfl, hb6⟩
  clear c4
  have b56 : Below w5.heap.size w5 w6 := ((Below.refl _ _).alloc (Nat.le_refl _) _).trans (hb6.mono (by simp))
  have b6 := b5.trans (b56.mono b5.size)
  clear hb6 b56 b5
  obtain ⟨w7, hmk, hom, hb7⟩ := make_two w6
  have b7 := b6.trans (hb7.mono b6.size)
  have c5 := check_any2 (some ⟨w6.heap.size, 0, none⟩) 2 w7 (in_own (xs := [Z0, Z0]) hom (by decide +kernel) (by decide) (HT.out.below b7))
  rw [ck_two] at c5
  clear hom
  go_wp2_with fail
  refine c5.mono ?_
  rintro e w8 ⟨rfl, hb8⟩
  clear c5 hmk
  have b8 := b7.trans (hb8.mono b7.size)
  clear hb8 hb7 b7 b6
  go_wp2
  go_loopw [6, 7] (fun v vn wr => ∃ k : Nat, k ≤ 16 ∧ vn = .int .i64 k ∧ wr.ownsRow w8.heap.size 45 5 v k (cv (List.replicate k L1)) ∧ Below w8.heap.size w8 wr) (fun _ vn _ => 16 - (intOf vn).toNat)
  case atStart => exact ⟨0, Nat.zero_le _, rfl, World.ownsRow_nil _ _ _ _, Below.refl _ _⟩
  case round =>
    obtain ⟨k, hk, rfl, hown, hbr⟩ := hrel
    obtain ⟨A2, c2, rfl, hc2, hcm⟩ := own_slice hown
    obtain ⟨hi, hz0, hz1, hz2⟩ := HI.out
    have hbs := hbr.size
    by_cases hlt : k < 16
    · have hltd : decide ((k : Int) < 16) = true := by simp; omega
      go_wp2_with (first | (at_builtin; refine wpList_append_keepW _ (by rfl) _ _ _ (by rfl) w8.heap.size 45 i0 (.agg #[.int .u8 0, .string ⟨#[]⟩, .string ⟨#[]⟩, .int .i64 0, .int .i64 0]) 5 56 Tryd.underlying25 hi hz0 hz1 hz2 (by rfl) (by decide) (.slice A2 k c2) k (cv (List.replicate k L1)) (by rfl) (hown.alloc _) wr.heap.size 0 1 1 (cv [L1]) (by rfl) (new_cells wr (cv [L1]).toArray 45 (cv [L1]) (by simp)) (by rfl) cv_one (by unfold maxLen; omega) (by omega) (by simp; omega) ?_; intro v5 w3 hown3 hgrow hkeep; have hB3 : Below w8.heap.size w8 w3 := Below.grown (hbr.alloc (by omega) _) hgrow (by simp; omega) (fun j e => (hown.lt j e).1)))
      go_roundw
      case rel => exact ⟨k + 1, by omega, rfl, by rw [List.replicate_succ', cv_app]; exact hown3, hB3⟩
      case measure => simp [intOf]; omega
    · obtain rfl : k = 16 := by omega
      have hltd : decide (((16 : Nat) : Int) < 16) = false := by decide
      have br := b8.trans (hbr.mono b8.size)
      have HO := Lib.hid hown
      have HBR := Lib.hid hbr
      clear hbr
      go_wp2_with (first | (at_builtin; refine wpList_append_keepW _ (by rfl) _ _ _ (by rfl) w8.heap.size 45 i0 (.agg #[.int .u8 0, .string ⟨#[]⟩, .string ⟨#[]⟩, .int .i64 0, .int .i64 0]) 5 56 Tryd.underlying25 hi hz0 hz1 hz2 (by rfl) (by decide) (.slice A2 16 c2) 16 (cv (List.replicate 16 L1)) (by rfl) (HO.out.alloc _) wr.heap.size 0 1 1 (cv [Z0]) (by rfl) (new_cells wr (cv [Z0]).toArray 45 (cv [Z0]) (by simp)) (by rfl) cv_one (by unfold maxLen; omega) (by omega) (by simp; omega) ?_; intro v5 w9 hown5 hgrow hkeep; clear hown))
      have b9 : Below w.heap.size w w9 := Below.grown (br.alloc br.size _) hgrow (by have := br.size; simp; omega) (fun j e => Nat.le_trans b8.size (HO.out.lt j e).1)
      obtain ⟨A5, c5, rfl, _, _⟩ := own_slice hown5
      have hf : w9.ownsRow w8.heap.size 45 5 (.slice A5 (List.replicate 16 L1 ++ [Z0]).length c5) (List.replicate 16 L1 ++ [Z0]).length (cv (List.replicate 16 L1 ++ [Z0])) := by rw [cv_app]; exact hown5
      have c6 := check_any2 A5 c5 w9 (in_own hf (by decide +kernel) (by decide) (HT.out.below b9))
      rw [ck_fits, show (List.replicate 16 L1 ++ [Z0]).length = 16 + 1 from rfl] at c6
      have HK := Lib.hid hkeep
      clear hf hown5 hkeep
      refine c6.mono ?_
      rintro e w10 ⟨rfl, hb10⟩
      clear c6
      have b10 := b9.trans (hb10.mono b9.size)
      have hk10 := own_below HK.out hb10 (own_lt HK.out)
      have HK10 := Lib.hid hk10
      have s9 : w8.heap.size ≤ w9.heap.size := Nat.le_trans hbs (Nat.le_trans (by simp) (hgrow.size))
      have s10 : w8.heap.size ≤ w10.heap.size := Nat.le_trans s9 hb10.size
      clear hk10 HK hb10 hgrow
      go_wp2_with (first | (at_builtin; refine wpList_append_keepW _ (by rfl) _ _ _ (by rfl) w8.heap.size 45 i0 (.agg #[.int .u8 0, .string ⟨#[]⟩, .string ⟨#[]⟩, .int .i64 0, .int .i64 0]) 5 56 Tryd.underlying25 hi hz0 hz1 hz2 (by rfl) (by decide) (.slice A2 16 c2) 16 (cv (List.replicate 16 L1)) (by rfl) (HK10.out.alloc _) w10.heap.size 0 1 1 (cv [L0]) (by rfl) (new_cells w10 (cv [L0]).toArray 45 (cv [L0]) (by simp)) (by rfl) cv_one (by unfold maxLen; omega) (by omega) (by simp; omega) ?_; intro v6 w11 hown6 hgrow hkeep))
      have b11 : Below w.heap.size w w11 := Below.grown (b10.alloc b10.size _) hgrow (by have := b10.size; simp; omega) (fun j e => Nat.le_trans b8.size (HK10.out.lt j e).1)
      obtain ⟨A6, c6, rfl, _, _⟩ := own_slice hown6
      have hf : w11.ownsRow w8.heap.size 45 5 (.slice A6 (List.replicate 16 L1 ++ [L0]).length c6) (List.replicate 16 L1 ++ [L0]).length (cv (List.replicate 16 L1 ++ [L0])) := by rw [cv_app]; exact hown6
      have c7 := check_any2 A6 c6 w11 (in_own hf (by decide +kernel) (by decide) (HT.out.below b11))
      rw [ck_deep, show (List.replicate 16 L1 ++ [L0]).length = 16 + 1 from rfl] at c7
      clear hf hown6 hgrow hkeep
      refine c7.mono ?_
      rintro e w12 ⟨rfl, hb12⟩
      clear c7
      have b12 := b11.trans (hb12.mono b11.size)
      clear hb12 b11 HK10 b10 b9 HO HBR br
      go_wp2_with fail
      refine (alive_any w12 (HT.out.below b12)).mono ?_
      rintro e w13 ⟨rfl, hb13⟩
      have b13 := b12.trans (hb13.mono b12.size)
      go_wp2_with fail
      refine (five_any w13).mono ?_
      rintro e w14 ⟨rfl, hw14⟩
      have b14 := b13.trans ((five_below hw14).mono b13.size)
      have c8 := check_any2 (some ⟨w13.heap.size, 0, none⟩) 5 w14 (five_in hw14 (HT.out.below b13))
      rw [ck_five, show fiveL.length = 5 from rfl] at c8
      clear hw14
      go_wp2_with fail
      refine c8.mono ?_
      rintro e w15 ⟨rfl, hb15⟩
      go_wp2
      go_ret
      exact ⟨rfl, b14.trans (hb15.mono b14.size)⟩
end Go.Proofs.YtmaefhnlipcmoaaDoor
