/- uuid.Text: the text of sixteen bytes. Conditions: there are sixteen of them, each a byte. -/
import Derived.Test.YtbigpcpifbjkfaaOwn
import Derived.Test.YtbigpcpifbjkfaaProg
import Derived.Laws.AppendOwn
import Derived.Shelf.Bytes.SlSmallAll
import Derived.Laws.MakeOwn
namespace Go.Proofs.Ytbigpcpifbjkfaa
open Go.RowKit Go.ChangeShapes Go.WideShapes Go.ChangeAt
def av (bs : List Int) : Array Value := (bs.map (Value.int .u8)).toArray
def dash (i : Nat) : Bool := i == 8 || i == 13 || i == 18 || i == 23
def cnt (i : Nat) : Nat := i - (if 8 < i then 1 else 0) - (if 13 < i then 1 else 0) - (if 18 < i then 1 else 0) - (if 23 < i then 1 else 0)
def hexd (d : Int) : Int := if d < 10 then 48 + d else 87 + d
def nib (bs : List Int) (n : Nat) : Int := if n % 2 = 0 then bs.getD (n / 2) 0 / 16 else bs.getD (n / 2) 0 % 16
def chr (bs : List Int) (i : Nat) : Int := if dash i then 45 else hexd (nib bs (cnt i))
def txt (bs : List Int) : List Int := (List.range 36).map (chr bs)
theorem own_text {w : World} {base n : Nat} {v : Value} {zs : List Int} (hn : n = zs.length) (h : w.ownsRow base 5 1 v n (zs.map (Value.int .u8))) :
    (convert 40 9 v).run Try.prog w = .ok (.string (strOfNums zs)) w := by
  subst hn
  obtain ⟨A, c, rfl, _, _⟩ := own_slice h
  rcases Rd.of_own h with h0 | ⟨b, off, rfl, _, hc⟩
  · obtain rfl : zs = [] := by simpa using h0
    exact run_convert_bytes_zero w _ _ Try.underlying40 Try.underlying5 A c _ Try.underlying9
  · exact run_convert_bytes_arg w _ _ Try.underlying40 Try.underlying5 b off _ c zs rfl (fun i hi => by rw [hc i (by simpa using hi)]; simp [List.getD, List.getElem?_eq_getElem hi]) _ Try.underlying9
theorem own_ge {w : World} {base n : Nat} {e : TypeId} {sz : Nat} {v : Value} {xs : List Value} (h : w.ownsRow base e sz v n xs) : ∀ g, v.ownBlock = some g → base ≤ g := by
  intro g hg
  rcases h.2 with ⟨rfl, _⟩ | ⟨g', cap, cur, rfl, hg', hh, r⟩
  · simp [Value.ownBlock] at hg
  · simp [Value.ownBlock] at hg
    subst hg
    exact hg'
theorem av_cell {w : World} {b : Nat} {bs : List Int} {t : TypeId} (h : w.heap[b]? = some (.cells (av bs) t)) (k : Nat) (hk : k < bs.length) : w.cell? ⟨b, k, none⟩ = some (.int .u8 (bs.getD k 0)) := by
  simp only [World.cell?, h, av]
  simp [List.getD, List.getElem?_eq_getElem hk]
theorem shape_at (k : Nat) (h : k < 36) : ((⟨#[120, 120, 120, 120, 120, 120, 120, 120, 45, 120, 120, 120, 120, 45, 120, 120, 120, 120, 45, 120, 120, 120, 120, 45, 120, 120, 120, 120, 120, 120, 120, 120, 120, 120, 120, 120]⟩ : ByteArray)[k]'h).toNat = if dash k then 45 else 120 := by
  have : ∀ i : Fin 36, ((⟨#[120, 120, 120, 120, 120, 120, 120, 120, 45, 120, 120, 120, 120, 45, 120, 120, 120, 120, 45, 120, 120, 120, 120, 45, 120, 120, 120, 120, 120, 120, 120, 120, 120, 120, 120, 120]⟩ : ByteArray)[i.1]'i.2).toNat = if dash i.1 then 45 else 120 := by decide
  exact this ⟨k, h⟩
theorem hex_at (k : Nat) (h : k < 16) : (((⟨#[48, 49, 50, 51, 52, 53, 54, 55, 56, 57, 97, 98, 99, 100, 101, 102]⟩ : ByteArray)[k]'h).toNat : Int) = hexd k := by
  have : ∀ i : Fin 16, (((⟨#[48, 49, 50, 51, 52, 53, 54, 55, 56, 57, 97, 98, 99, 100, 101, 102]⟩ : ByteArray)[i.1]'i.2).toNat : Int) = hexd i.1 := by decide
  exact this ⟨k, h⟩
theorem cnt_dash (k : Nat) (h : k < 36) (hd : dash k = true) : cnt (k + 1) = cnt k := by
  have : ∀ i : Fin 36, dash i.1 = true → cnt (i.1 + 1) = cnt i.1 := by decide
  exact this ⟨k, h⟩ hd
theorem cnt_not (k : Nat) (h : k < 36) (hd : dash k = false) : cnt (k + 1) = cnt k + 1 ∧ cnt k < 32 := by
  have : ∀ i : Fin 36, dash i.1 = false → cnt (i.1 + 1) = cnt i.1 + 1 ∧ cnt i.1 < 32 := by decide
  exact this ⟨k, h⟩ hd
theorem txt_len (bs : List Int) : (txt bs).length = 36 := by simp [txt]
theorem txt_take (bs : List Int) (k : Nat) (h : k < 36) : ((txt bs).take (k + 1)).map (Value.int .u8) = ((txt bs).take k).map (Value.int .u8) ++ [.int .u8 (chr bs k)] := by
  rw [List.take_add_one, List.getElem?_eq_getElem (by rw [txt_len]; exact h)]
  simp [txt]
theorem and15 (x : Int) (h : 0 ≤ x ∧ x < 256) : bits BinOp.and IntKind.u8 x 15 = x % 16 := by
  have : ∀ i : Fin 256, bits BinOp.and IntKind.u8 (i.1 : Int) 15 = (i.1 : Int) % 16 := by decide +kernel
  have h1 := this ⟨x.toNat, by omega⟩
  simp only at h1
  rwa [Int.toNat_of_nonneg h.1] at h1
theorem text_any (bs : List Int) (w : World) (hl : bs.length = 16) (hb9 : ∀ x ∈ bs, 0 ≤ x ∧ x < 256) :
    Calls Try.prog 9 #[.agg (av bs)] w fun e w' => e = .returned (.string (strOfNums (txt bs))) ∧ Below w.heap.size w w' := by
  have hsz : (w.alloc (.cells (av bs) 22)).heap.size = w.heap.size + 1 := by simp
  obtain ⟨i0, hi, hz0, hz1, hz2⟩ := info_parts (show (Try.prog.info? 5).map (fun i => (i.zero, i.size, i.bytes)) = some (some (.int .u8 0), 1, 1) by kernel_rfl)
  obtain ⟨w1, hmk, hown, hg⟩ := run_make_own (w.alloc (.cells (av bs) 22)) (w.heap.size + 1) 40 5 i0 (.int .u8 0) 1 Try.underlying40 hi hz0 hz1 .i64 .i64 36 (by rw [hz2]; decide) (by decide) (by omega)
  have hb1 : Below (w.heap.size + 1) (w.alloc (.cells (av bs) 22)) w1 := (Below.refl _ _).grown hg (by omega) (by simp)
  have hc : w1.heap[w.heap.size]? = some (.cells (av bs) 22) := by rw [hb1.block _ (by omega)]; exact heap_alloc_new _ _
  have hb0 : Below w.heap.size w w1 := ((Below.refl _ _).alloc (Nat.le_refl _) _).trans (hb1.mono (by omega))
  have hs1 : w.heap.size + 1 ≤ w1.heap.size := by have := hb1.size; omega
  rw [hsz] at hmk hown
  replace hmk : (Instr.makeSlice 40 (.int .i64 0) (.int .i64 36)).run Try.prog (w.alloc (.cells (av bs) 22)) = .ok (.slice (some ⟨w.heap.size + 1, 0, none⟩) 0 36) w1 := hmk
  clear hg hb1
  go_enter Try.func9, Try.ntmps9
  go_wp2
  go_loopw [3, 4, 7] (fun out n i wr => ∃ k : Nat, k ≤ 36 ∧ i = .int .i64 k ∧ n = .int .i64 (cnt k) ∧ wr.ownsRow (w.heap.size + 1) 5 1 out k (((txt bs).take k).map (Value.int .u8)) ∧ Below (w.heap.size + 1) w1 wr) (fun _ _ i _ => 36 - (intOf i).toNat)
  case atStart => exact ⟨0, by omega, rfl, rfl, hown, Below.refl _ _⟩
  case round =>
    obtain ⟨k, hk, rfl, rfl, ho, hb⟩ := hrel
    by_cases hlt : k < 36
    · have hcr : wr.heap[w.heap.size]? = some (.cells (av bs) 22) := by rw [hb.block _ (by omega)]; exact hc
      have hs2 : w.heap.size + 1 ≤ wr.heap.size := by have := hb.size; omega
      have hsh := shape_at k hlt
      by_cases hd : dash k = true
      · rw [if_pos hd] at hsh
        have hv : chr bs k = 45 := by simp [chr, hd]
        have hown1 := own_below ho ((Below.refl wr.heap.size wr).alloc (Nat.le_refl _) (.cells #[.int .u8 45] 5)) (own_lt ho)
        clear ho
        go_wp2_with (first | (at_builtin; refine wpList_append_own _ rfl _ _ 40 rfl (w.heap.size + 1) 5 i0 (.int .u8 0) 1 1 Try.underlying40 hi hz0 hz1 hz2 rfl (by decide) _ _ _ rfl hown1 ⟨wr.heap.size, 0, none⟩ 1 1 [.int .u8 (chr bs k)] rfl ?d1 ?d2 ?d3 ?d4 ?d5 ?d6 ?d7))
        case d3 => first | rfl | (intro u hu; simp at hu; subst hu; rfl)
        case d4 => unfold maxLen; omega
        case d5 => omega
        case d6 => omega
        case d7 =>
          intro v' w' ho' hg _
          have hb' : Below (w.heap.size + 1) w1 w' := (hb.alloc hs2 _).grown hg (by simp; omega) (own_ge hown1)
          go_wp2
          refine ⟨⟨k + 1, hlt, by go_num, by rw [cnt_dash k hlt hd], by rw [txt_take bs k hlt, hv, List.map_take]; exact ho', hb'⟩, by simp [intOf]; omega⟩
      · replace hd : dash k = false := by simpa using hd
        rw [if_neg (by simp [hd])] at hsh
        obtain ⟨hc1, hc2⟩ := cnt_not k hlt hd
        have hcell := av_cell hcr (cnt k / 2) (by omega)
        have hbx := hb9 (bs.getD (cnt k / 2) 0) (by rw [List.getD, List.getElem?_eq_getElem (show cnt k / 2 < bs.length by omega)]; exact List.getElem_mem _)
        obtain ⟨x, hx⟩ : ∃ x, bs.getD (cnt k / 2) 0 = x := ⟨_, rfl⟩
        rw [hx] at hcell hbx
        by_cases hp : cnt k % 2 = 0
        · have hbit := and15 (x / 16) (by omega)
          rw [show x / 16 % 16 = x / 16 by omega] at hbit
          obtain ⟨y, hy⟩ : ∃ y : Int, hexd ((x / 16).toNat : Int) = y := ⟨_, rfl⟩
          have hh := hex_at (x / 16).toNat (by omega)
          rw [hy] at hh
          have hv : chr bs k = y := by
            rw [← hy, Int.toNat_of_nonneg (by omega)]
            simp [chr, hd, nib, hp] at hx ⊢
            rw [hx]
          have hown1 := own_below ho ((Below.refl wr.heap.size wr).alloc (Nat.le_refl _) (.cells #[.int .u8 y] 5)) (own_lt ho)
          clear ho hy
          go_wp2_with (first | (at_builtin; refine wpList_append_own _ rfl _ _ 40 rfl (w.heap.size + 1) 5 i0 (.int .u8 0) 1 1 Try.underlying40 hi hz0 hz1 hz2 rfl (by decide) _ _ _ rfl hown1 ⟨wr.heap.size, 0, none⟩ 1 1 [.int .u8 y] rfl ?e1 ?e2 ?e3 ?e4 ?e5 ?e6 ?e7))
          case e3 => first | rfl | (intro u hu; simp at hu; subst hu; rfl)
          case e4 => unfold maxLen; omega
          case e5 => omega
          case e6 => omega
          case e7 =>
            intro v' w' ho' hg _
            have hb' : Below (w.heap.size + 1) w1 w' := (hb.alloc hs2 _).grown hg (by simp; omega) (own_ge hown1)
            go_wp2
            refine ⟨⟨k + 1, hlt, by go_num, by rw [hc1]; go_num, by rw [txt_take bs k hlt, hv, List.map_take]; exact ho', hb'⟩, by simp [intOf]; omega⟩
        · have hp1 : cnt k % 2 = 1 := by omega
          have hbit := and15 x hbx
          obtain ⟨y, hy⟩ : ∃ y : Int, hexd ((x % 16).toNat : Int) = y := ⟨_, rfl⟩
          have hh := hex_at (x % 16).toNat (by omega)
          rw [hy] at hh
          have hv : chr bs k = y := by
            rw [← hy, Int.toNat_of_nonneg (by omega)]
            simp [chr, hd, nib, hp1] at hx ⊢
            rw [hx]
          have hown1 := own_below ho ((Below.refl wr.heap.size wr).alloc (Nat.le_refl _) (.cells #[.int .u8 y] 5)) (own_lt ho)
          clear ho hy
          go_wp2_with (first | (at_builtin; refine wpList_append_own _ rfl _ _ 40 rfl (w.heap.size + 1) 5 i0 (.int .u8 0) 1 1 Try.underlying40 hi hz0 hz1 hz2 rfl (by decide) _ _ _ rfl hown1 ⟨wr.heap.size, 0, none⟩ 1 1 [.int .u8 y] rfl ?f1 ?f2 ?f3 ?f4 ?f5 ?f6 ?f7))
          case f3 => first | rfl | (intro u hu; simp at hu; subst hu; rfl)
          case f4 => unfold maxLen; omega
          case f5 => omega
          case f6 => omega
          case f7 =>
            intro v' w' ho' hg _
            have hb' : Below (w.heap.size + 1) w1 w' := (hb.alloc hs2 _).grown hg (by simp; omega) (own_ge hown1)
            go_wp2
            refine ⟨⟨k + 1, hlt, by go_num, by rw [hc1]; go_num, by rw [txt_take bs k hlt, hv, List.map_take]; exact ho', hb'⟩, by simp [intOf]; omega⟩
    · obtain rfl : k = 36 := by omega
      have hconv := own_text (n := 36) (zs := txt bs) (by simp [txt]) (by rw [List.take_of_length_le (by simp [txt])] at ho; exact ho)
      go_wp2
      go_ret
      exact ⟨rfl, hb0.trans (hb.mono (by omega))⟩
end Go.Proofs.Ytbigpcpifbjkfaa
