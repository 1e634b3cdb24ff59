/- The plain law of DayReads: what is read step by step is what is read place by place. Conditions: none. -/
import Derived.Test.YtdaadoiedaplaaaDoorRefDig
namespace Go.Proofs.YtdaadoiedaplaaaDoor
open Go.RowKit Go.Lib
/-- how many digits of a fraction are read: at most nine -/
def many9 (l : List UInt8) : Nat := min 9 ((l.drop 20).takeWhile isDig).length
/-- a fraction, and where its text ends -/
def fracR (l : List UInt8) : Option (Nat × Nat) :=
  if l.getD 19 0 = 46 then (if many9 l = 0 then none else some (valL ((l.drop 20).take (many9 l)) * 10 ^ (9 - many9 l), 20 + many9 l)) else some (0, 19)
def endR (y m d h mi sec nano : Nat) (off : Int) : Option (Int × Int) := if okD (secD y m d h mi sec off) nano = true then some (secD y m d h mi sec off, nano) else none
def tailR (y m d h mi sec : Nat) (l : List UInt8) : Option (Int × Int) := (fracR l).bind fun p => (offR (l.drop p.2)).bind fun off => endR y m d h mi sec p.1 off
def bytesR (l : List UInt8) : Prop := 20 ≤ l.length ∧ (l.getD 4 0).toNat = 45 ∧ (l.getD 7 0).toNat = 45 ∧ ((l.getD 10 0).toNat = 84 ∨ (l.getD 10 0).toNat = 116) ∧ (l.getD 13 0).toNat = 58 ∧ (l.getD 16 0).toNat = 58
def numsR (y m d h mi sec : Int) : Prop := 0 ≤ y ∧ 1 ≤ m ∧ m ≤ 12 ∧ 1 ≤ d ∧ d ≤ dim y m ∧ 0 ≤ h ∧ h ≤ 23 ∧ 0 ≤ mi ∧ mi ≤ 59 ∧ 0 ≤ sec ∧ sec ≤ 59
instance (l : List UInt8) : Decidable (bytesR l) := by unfold bytesR; infer_instance
instance (y m d h mi sec : Int) : Decidable (numsR y m d h mi sec) := by unfold numsR; infer_instance
/-- what the reference's Parse tells -/
def parseR (l : List UInt8) : Option (Int × Int) :=
  if bytesR l ∧ numsR (numR l 0 4) (numR l 5 2) (numR l 8 2) (numR l 11 2) (numR l 14 2) (numR l 17 2) then
    tailR (numR l 0 4).toNat (numR l 5 2).toNat (numR l 8 2).toNat (numR l 11 2).toNat (numR l 14 2).toNat (numR l 17 2).toNat l
  else none
theorem num_at (l : List UInt8) (a k low high : Nat) (hk1 : 1 ≤ k) : numP k low high (l.drop a) = if 0 ≤ numR l a k ∧ (low : Int) ≤ numR l a k ∧ numR l a k ≤ (high : Int) then some ((numR l a k).toNat, l.drop (a + k)) else none := by
  unfold numP
  by_cases h : a + k ≤ l.length ∧ ((l.drop a).take k).all isDig = true
  · have hn : numR l a k = (valL ((l.drop a).take k) : Nat) := if_pos h
    rw [hn]
    by_cases hb : low ≤ valL ((l.drop a).take k) ∧ valL ((l.drop a).take k) ≤ high
    · rw [if_pos ⟨by rw [List.length_drop]; omega, h.2, hb.1, hb.2⟩, if_pos (by omega), List.drop_drop]
      simp
    · rw [if_neg (fun e => hb ⟨e.2.2.1, e.2.2.2⟩), if_neg (by omega)]
  · have hn : numR l a k = -1 := if_neg h
    rw [hn, if_neg (show ¬ ((0 : Int) ≤ -1 ∧ (low : Int) ≤ -1 ∧ (-1 : Int) ≤ high) by omega), if_neg]
    rintro ⟨h1, h2, h3, h4⟩
    rw [List.length_drop] at h1
    exact h ⟨by omega, h2⟩
theorem mark_at (M l : List UInt8) (a : Nat) : markP M (l.drop a) = if a < l.length ∧ l.getD a 0 ∈ M then some (l.getD a 0, l.drop (a + 1)) else none := by
  rcases Nat.lt_or_ge a l.length with h | h
  · rw [List.drop_eq_getElem_cons h]
    have e : l.getD a 0 = l[a] := by rw [List.getD_eq_getElem?_getD, List.getElem?_eq_getElem h]; rfl
    rw [e]
    show (if l[a] ∈ M then some (l[a], l.drop (a + 1)) else none) = _
    by_cases hm : l[a] ∈ M
    · rw [if_pos hm, if_pos ⟨h, hm⟩]
    · rw [if_neg hm, if_neg (fun e => hm e.2)]
  · rw [List.drop_eq_nil_of_le h, if_neg (by omega)]
    rfl
theorem bind_ite {α β : Type} (c : Prop) [Decidable c] (a : α) (f : α → Option β) : (if c then some a else none).bind f = if c then f a else none := by
  split <;> rfl
theorem ite_fold {α : Type} (a b : Prop) [Decidable a] [Decidable b] (x : Option α) : (if a then (if b then x else none) else none) = if a ∧ b then x else none := by
  by_cases ha : a <;> by_cases hb : b <;> simp [ha, hb]
theorem numR_ge (l : List UInt8) (a k : Nat) : 0 ≤ numR l a k → a + k ≤ l.length := by
  unfold numR
  split
  · rename_i h; exact fun _ => h.1
  · intro h; omega
theorem mem1 (c x : UInt8) : c ∈ [x] ↔ c.toNat = x.toNat := by
  simp [← UInt8.toNat_inj]
theorem mem2 (c x y : UInt8) : c ∈ [x, y] ↔ c.toNat = x.toNat ∨ c.toNat = y.toNat := by
  simp [← UInt8.toNat_inj]
theorem mem4 (c x y z u : UInt8) : c ∈ [x, y, z, u] ↔ c.toNat = x.toNat ∨ c.toNat = y.toNat ∨ c.toNat = z.toNat ∨ c.toNat = u.toNat := by
  simp [← UInt8.toNat_inj]
/-- the end of a text: the offset -/
theorem off_eq (y m d h mi sec nano : Nat) (l : List UInt8) :
    ((markP [90, 122, 43, 45] l).bind fun p => kO0 y m d h mi sec nano p.1.toNat p.2) = if (d : Int) ≤ dim y m then (offR l).bind (endR y m d h mi sec nano) else none := by
  have hfin : ∀ (off : Int) (r : List UInt8), kFin y m d h mi sec nano off r = if r = [] ∧ (d : Int) ≤ dim y m then endR y m d h mi sec nano off else none := by
    intro off r
    unfold kFin endR
    by_cases h1 : r = [] <;> by_cases h2 : (d : Int) ≤ dim y m <;> by_cases h3 : okD (secD y m d h mi sec off) nano = true <;> simp [h1, h2, h3]
  have h0 := mark_at [90, 122, 43, 45] l 0
  rw [List.drop_zero] at h0
  rw [h0, bind_ite]
  simp only [mem4]
  obtain ⟨c, hc⟩ : ∃ c, (l.getD 0 0).toNat = c := ⟨_, rfl⟩
  rw [hc]
  simp only [show (90 : UInt8).toNat = 90 from rfl, show (122 : UInt8).toNat = 122 from rfl, show (43 : UInt8).toNat = 43 from rfl, show (45 : UInt8).toNat = 45 from rfl]
  by_cases hl : l = []
  · subst hl
    have : offR [] = none := by decide
    rw [this]
    simp
  · have hlen : 0 < l.length := by cases l <;> simp_all
    by_cases hz : c = 90 ∨ c = 122
    · rw [if_pos ⟨hlen, by omega⟩]
      have e1 : kO0 y m d h mi sec nano c (l.drop (0 + 1)) = kFin y m d h mi sec nano 0 (l.drop 1) := by
        unfold kO0
        rw [if_neg (by omega)]
      rw [e1, hfin]
      by_cases h1 : l.drop 1 = []
      · have ho : offR l = some 0 := by
          unfold offR
          rw [if_pos]
          match l, hlen, h1, hc with
          | [a], _, _, hc =>
            have : a.toNat = c := hc
            rcases hz with rfl | rfl
            · left; congr; exact UInt8.toNat_inj.1 this
            · right; congr; exact UInt8.toNat_inj.1 this
          | a :: b :: r, _, h1, _ => cases h1
        rw [ho]
        simp [h1]
      · rw [if_neg (fun e => h1 e.1)]
        have ho : offR l = none := by
          unfold offR
          rw [if_neg]
          · split
            · unfold off6
              rw [hc, if_neg (by omega)]
            · rfl
          · rintro (rfl | rfl) <;> exact h1 rfl
        rw [ho]
        simp
    · by_cases hs : c = 43 ∨ c = 45
      · rw [if_pos ⟨hlen, by omega⟩]
        have e1 : kO0 y m d h mi sec nano c (l.drop (0 + 1)) = ((numP 2 0 23 (l.drop 1)).bind fun p => kO1 y m d h mi sec nano c p.1 p.2) := by
          unfold kO0
          rw [if_pos hs]
        rw [e1, num_at _ _ _ _ _ (by omega), bind_ite]
        unfold kO1
        rw [mark_at, bind_ite]
        simp only [mem1]
        unfold kO2
        rw [num_at _ _ _ _ _ (by omega), bind_ite, hfin]
        have ho : offR l = if l.length = 6 then off6 c (l.getD 3 0).toNat (numR l 1 2) (numR l 4 2) else none := by
          unfold offR
          rw [if_neg, hc]
          rintro (rfl | rfl)
          · exact hz (.inl hc.symm)
          · exact hz (.inr hc.symm)
        rw [ho]
        simp only [show 1 + 2 = 3 from rfl, show 3 + 1 = 4 from rfl, show 4 + 2 = 6 from rfl, show (58 : UInt8).toNat = 58 from rfl]
        have hg := numR_ge l 4 2
        unfold off6
        simp only [List.drop_eq_nil_iff]
        repeat' split
        all_goals first
          | rfl
          | (exfalso; omega)
          | (simp only [Option.bind_some]; congr 1; omega)
      · rw [if_neg (by omega)]
        have ho : offR l = none := by
          unfold offR
          rw [if_neg]
          · split
            · unfold off6
              rw [hc, if_neg (by omega)]
            · rfl
          · rintro (rfl | rfl)
            · exact hz (.inl hc.symm)
            · exact hz (.inr hc.symm)
        rw [ho]
        simp
theorem ndig_eq (l : List UInt8) : nDig l = (l.takeWhile isDig).length := by
  unfold nDig Lib.trimLeftS
  have h1 : (fun b => digs.contains b) = isDig := by
    funext b
    rw [Bool.eq_iff_iff]
    unfold isDig
    rw [decide_eq_true_iff]
    have key : ∀ n : Fin 256, (digs.contains (UInt8.ofNat n.val) = true ↔ 48 ≤ n.val ∧ n.val ≤ 57) := by decide +kernel
    have := key ⟨b.toNat, b.toNat_lt⟩
    simpa using this
  have h2 : (l.takeWhile isDig).length + (l.dropWhile isDig).length = l.length := by
    rw [← List.length_append, List.takeWhile_append_dropWhile]
  first
    | (rw [h1]; omega)
    | (simp only [h1]; omega)
theorem tw_take (p : UInt8 → Bool) : ∀ (l : List UInt8) (k : Nat), k ≤ (l.takeWhile p).length → (l.take k).all p = true
  | [], k, _ => by simp
  | c :: r, 0, _ => by simp
  | c :: r, k + 1, h => by
    by_cases hc : p c = true
    · rw [List.takeWhile_cons_of_pos hc, List.length_cons] at h
      rw [List.take_succ_cons, List.all_cons, hc, tw_take p r k (by omega)]
      rfl
    · rw [List.takeWhile_cons_of_neg hc] at h
      simp at h
theorem tw_len (p : UInt8 → Bool) (l : List UInt8) : (l.takeWhile p).length ≤ l.length := (List.takeWhile_sublist _).length_le
theorem tail_eq (y m d h mi sec : Nat) (l : List UInt8) (hl : 20 ≤ l.length) :
    k11 y m d h mi sec (l.drop 19) = if (d : Int) ≤ dim y m then tailR y m d h mi sec l else none := by
  have hk : ∀ (nano : Nat) (r : List UInt8), k12 y m d h mi sec nano r = if (d : Int) ≤ dim y m then (offR r).bind (endR y m d h mi sec nano) else none := fun nano r => off_eq y m d h mi sec nano r
  unfold k11 tailR
  simp only [hk]
  by_cases hdm : (d : Int) ≤ dim y m
  case neg =>
    simp only [if_neg hdm]
    cases fracP (l.drop 19) <;> rfl
  simp only [if_pos hdm]
  have hd : l.drop 19 = l.getD 19 0 :: l.drop 20 := by
    rw [List.drop_eq_getElem_cons (by omega), List.getD_eq_getElem?_getD, List.getElem?_eq_getElem (by omega)]
    rfl
  rw [hd]
  unfold fracP fracR many9
  simp only [List.head?_cons, Option.some.injEq, List.drop_succ_cons, List.drop_zero, ndig_eq]
  by_cases h46 : l.getD 19 0 = 46
  · rw [if_pos h46, if_pos h46]
    obtain ⟨n, hn⟩ : ∃ n, ((l.drop 20).takeWhile isDig).length = n := ⟨_, rfl⟩
    rw [hn]
    by_cases h9 : 1 ≤ n ∧ n ≤ 9
    · rw [if_pos h9, Nat.min_eq_right h9.2, if_neg (by omega)]
      have hall : ((l.drop 20).take n).all isDig = true := tw_take _ _ _ (by omega)
      have hlen : n ≤ (l.drop 20).length := by rw [← hn]; exact tw_len _ _
      have hv := val_lt _ hall rfl
      have hp : 10 ^ ((l.drop 20).take n).length ≤ 10 ^ 9 := Nat.pow_le_pow_right (by omega) (by rw [List.length_take]; omega)
      have hnum : numP n 0 999999999 (l.drop 20) = some (valL ((l.drop 20).take n), (l.drop 20).drop n) := by
        unfold numP
        rw [if_pos ⟨hlen, hall, Nat.zero_le _, by omega⟩]
      rw [hnum, List.drop_drop]
      rfl
    · rw [if_neg h9]
      by_cases h0 : n = 0
      · subst h0
        simp
      · rw [show min 9 n = 9 by omega, if_neg (by decide)]
        have hall : ((l.drop 20).take 10).all isDig = true := tw_take _ _ _ (by omega)
        have hlen : 10 ≤ (l.drop 20).length := by have := tw_len isDig (l.drop 20); omega
        rw [List.length_drop] at hlen
        have hdg : isDig (l.getD 29 0) = true := by
          rw [List.all_eq_true] at hall
          refine hall _ ?_
          rw [List.mem_take_iff_getElem]
          refine ⟨9, by simp; omega, ?_⟩
          rw [List.getElem_drop, List.getD_eq_getElem?_getD, List.getElem?_eq_getElem (by omega)]
          rfl
        unfold isDig at hdg
        rw [decide_eq_true_iff] at hdg
        have ho : offR (l.drop (20 + 9)) = none := by
          have e0 : (l.drop (20 + 9)).getD 0 0 = l.getD 29 0 := by
            rw [List.getD_eq_getElem?_getD, List.getElem?_drop, List.getD_eq_getElem?_getD]
          have hn0 : ∀ c : UInt8, l.drop (20 + 9) = [c] → c = l.getD 29 0 := by
            intro c hc
            rw [← e0, hc]
            rfl
          unfold offR
          rw [if_neg]
          · split
            · unfold off6
              rw [e0, if_neg (by omega)]
            · rfl
          · rintro (h | h)
            · have := hn0 _ h
              rw [← this] at hdg
              revert hdg
              decide
            · have := hn0 _ h
              rw [← this] at hdg
              revert hdg
              decide
        simp only [Option.bind_some, Option.bind_none, ho]
  · rw [if_neg h46, if_neg h46]
    simp only [Option.bind_some, hd]
theorem numR_bd4 (l : List UInt8) (a : Nat) : -1 ≤ numR l a 4 ∧ numR l a 4 ≤ 9999 := by
  unfold numR
  split
  · rename_i h
    have := val_lt ((l.drop a).take 4) h.2 rfl
    have h2 : 10 ^ ((l.drop a).take 4).length ≤ 10 ^ 4 := Nat.pow_le_pow_right (by omega) (by rw [List.length_take]; omega)
    omega
  · omega
theorem parse_eq (l : List UInt8) : parseP l = parseR l := by
  have hP : parseP l = k0 (l.drop 0) := rfl
  rw [hP]
  unfold k0
  rw [num_at _ _ _ _ _ (by omega), bind_ite]
  unfold k1
  rw [mark_at, bind_ite]
  simp only [mem1]
  unfold k2
  rw [num_at _ _ _ _ _ (by omega), bind_ite]
  unfold k3
  rw [mark_at, bind_ite]
  simp only [mem1]
  unfold k4
  rw [num_at _ _ _ _ _ (by omega), bind_ite]
  unfold k5
  rw [mark_at, bind_ite]
  simp only [mem2]
  unfold k6
  rw [num_at _ _ _ _ _ (by omega), bind_ite]
  unfold k7
  rw [mark_at, bind_ite]
  simp only [mem1]
  unfold k8
  rw [num_at _ _ _ _ _ (by omega), bind_ite]
  unfold k9
  rw [mark_at, bind_ite]
  simp only [mem1]
  unfold k10
  rw [num_at _ _ _ _ _ (by omega), bind_ite]
  simp only [show 0 + 4 = 4 from rfl, show 4 + 1 = 5 from rfl, show 5 + 2 = 7 from rfl, show 7 + 1 = 8 from rfl, show 8 + 2 = 10 from rfl, show 10 + 1 = 11 from rfl, show 11 + 2 = 13 from rfl, show 13 + 1 = 14 from rfl, show 14 + 2 = 16 from rfl, show 16 + 1 = 17 from rfl, show 17 + 2 = 19 from rfl,
    show (45 : UInt8).toNat = 45 from rfl, show (84 : UInt8).toNat = 84 from rfl, show (116 : UInt8).toNat = 116 from rfl, show (58 : UInt8).toNat = 58 from rfl]
  unfold parseR
  have hge := numR_ge l 17 2
  have hy4 := numR_bd4 l 0
  by_cases h20 : 20 ≤ l.length
  · have ht := tail_eq (numR l 0 4).toNat (numR l 5 2).toNat (numR l 8 2).toNat (numR l 11 2).toNat (numR l 14 2).toNat (numR l 17 2).toNat l h20
    rw [ht]
    have hcast : 0 ≤ numR l 0 4 → 0 ≤ numR l 5 2 → 0 ≤ numR l 8 2 → ((((numR l 8 2).toNat : Nat) : Int) ≤ dim ((numR l 0 4).toNat : Nat) ((numR l 5 2).toNat : Nat) ↔ numR l 8 2 ≤ dim (numR l 0 4) (numR l 5 2)) := by
      intro h1 h2 h3
      rw [Int.toNat_of_nonneg h1, Int.toNat_of_nonneg h2, Int.toNat_of_nonneg h3]
    clear ht hP
    simp only [ite_fold]
    by_cases hC : bytesR l ∧ numsR (numR l 0 4) (numR l 5 2) (numR l 8 2) (numR l 11 2) (numR l 14 2) (numR l 17 2)
    · rw [if_pos hC]
      unfold bytesR numsR at hC
      have hc := hcast (by omega) (by omega) (by omega)
      have hdb := dim_bd (numR l 0 4) (numR l 5 2) (by omega) (by omega)
      rw [if_pos (by omega)]
    · rw [if_neg hC, if_neg]
      intro hE
      have hc := hcast (by omega) (by omega) (by omega)
      refine hC ?_
      unfold bytesR numsR
      omega
  · have hnil : l.drop 19 = [] := List.drop_eq_nil_of_le (by omega)
    have hn : ¬ (bytesR l ∧ numsR (numR l 0 4) (numR l 5 2) (numR l 8 2) (numR l 11 2) (numR l 14 2) (numR l 17 2)) := fun e => h20 e.1.1
    rw [if_neg hn]
    rw [hnil]
    have hk : ∀ y m d h mi sec : Nat, k11 y m d h mi sec [] = none := fun y m d h mi sec => by
      unfold k11 fracP
      rw [if_neg (by simp)]
      rfl
    simp only [hk, ite_self]
end Go.Proofs.YtdaadoiedaplaaaDoor
