/- provostref01.Text: the bytes of code points, one behind another. Conditions: each a code point. -/
import Derived.Test.YtllfgkfcbicnlaaRune
import Derived.Shelf.Bytes.SlSmallAll
namespace Go.Proofs.Ytllfgkfcbicnlaa
open Go.RowKit Go.ChangeShapes Go.WideShapes Go.ChangeAt
def iv (xs : List Int) : List Value := xs.map fun x => Value.int .i64 x
def enc (xs : List Int) : List Value := xs.flatMap Lib.runeCells
def encZ (xs : List Int) : List Int := xs.flatMap Lib.encodeRuneZ
theorem enc_nums (xs : List Int) : enc xs = (encZ xs).map (Value.int .u8) := by
  simp only [enc, encZ, List.map_flatMap]
  rfl
theorem own_text {w : World} {base n : Nat} {v : Value} {zs : List Int} (hn : n = zs.length) (h : w.ownsRow base 5 1 v n (zs.map (Value.int .u8))) :
    (convert 29 9 v).run Try.prog w = .ok (.string (strOfNums zs)) w := by
  subst hn
  obtain ⟨A, c, rfl, _, _⟩ := own_slice h
  rcases Rd.of_own h with h0 | ⟨b, off, rfl, _, hc⟩
  · obtain rfl : zs = [] := by simpa using h0
    exact run_convert_bytes_zero w _ _ Try.underlying29 Try.underlying5 A c _ Try.underlying9
  · exact run_convert_bytes_arg w _ _ Try.underlying29 Try.underlying5 b off _ c zs rfl (fun i hi => by rw [hc i (by simpa using hi)]; simp [List.getD, List.getElem?_eq_getElem hi]) _ Try.underlying9
theorem own_ge {w : World} {base n : Nat} {e : TypeId} {sz : Nat} {v : Value} {xs : List Value} (h : w.ownsRow base e sz v n xs) : ∀ g, v.ownBlock = some g → base ≤ g := by
  intro g hg
  rcases h.2 with ⟨rfl, _⟩ | ⟨g', cap, cur, rfl, hg', hh, r⟩
  · simp [Value.ownBlock] at hg
  · simp [Value.ownBlock] at hg
    subst hg
    exact hg'
theorem enc_len (xs : List Int) (k : Nat) (h : xs.length ≤ 17000) : (enc (xs.take k)).length ≤ 68000 := by
  have : ∀ ys : List Int, (enc ys).length ≤ 4 * ys.length := by
    intro ys
    induction ys with
    | nil => simp [enc]
    | cons y r ih =>
      have := (Lib.runeCells_le y).2
      simp only [enc, List.flatMap_cons, List.length_append, List.length_cons] at ih ⊢
      omega
  have h2 := this (xs.take k)
  have : (xs.take k).length ≤ xs.length := by simp; omega
  omega
theorem text_any (A : Option Addr) (c : Nat) (xs : List Int) (w : World) {B : Nat} (hx : Rd w B A (iv xs)) (hB : B ≤ w.heap.size) (hp : ∀ x ∈ xs, isPoint x = true) (hn : xs.length ≤ 17000) :
    Calls Try.prog 9 #[.slice A xs.length c] w fun e w' => e = .returned (.string (strOfNums (encZ xs))) ∧ Below w.heap.size w w' := by
  go_enter Try.func9, Try.ntmps9
  go_wp2
  go_loopw [3, 4] (fun b i wr => ∃ k : Nat, k ≤ xs.length ∧ i = .int .i64 k ∧ wr.ownsRow w.heap.size 5 1 b (enc (xs.take k)).length (enc (xs.take k)) ∧ Below w.heap.size w wr) (fun _ i _ => xs.length - (intOf i).toNat)
  case atStart => exact ⟨0, Nat.zero_le _, rfl, by simp [enc, World.ownsRow], Below.refl _ _⟩
  case round =>
    obtain ⟨k, hk, rfl, hown, hb⟩ := hrel
    have hxr := Rd.thru hx hb hB
    by_cases hlt : k < xs.length
    · obtain ⟨b, off, rfl, hcell⟩ : ∃ b off, A = some ⟨b, off, none⟩ ∧ wr.cell? ⟨b, off + k, none⟩ = some (.int .i64 xs[k]) := by
        rcases hxr with h | ⟨b, off, e, _, h⟩
        · simp [iv] at h
          subst h
          simp at hlt
        · exact ⟨b, off, e, by simpa [iv] using h k (by simpa [iv] using hlt)⟩
      have hpk := hp _ (List.getElem_mem hlt)
      simp only [isPoint, Bool.and_eq_true, Bool.or_eq_true, decide_eq_true_eq] at hpk
      go_wp2_with fail
      refine (bytes_any xs[k] hpk.1.1 hpk.1.2 hpk.2 wr).mono ?_
      rintro e w1 ⟨arr, rfl, harr, rfl⟩
      have hown1 := own_below hown ((Below.refl wr.heap.size wr).alloc (Nat.le_refl _) (.cells arr 5)) (own_lt hown)
      have hsz : arr.size ≤ 4 := by rw [← Array.length_toList, harr]; exact (Lib.runeCells_le _).2
      have hz : (wr.alloc (.cells arr 5)).heap.size = wr.heap.size + 1 := by simp
      have hlen : (enc (xs.take k)).length ≤ 68000 := enc_len xs k hn
      clear hown
      obtain ⟨i0, hi, hz0, hz1, hz2⟩ := info_parts (show (Try.prog.info? 5).map (fun i => (i.zero, i.size, i.bytes)) = some (some (.int .u8 0), 1, 1) by kernel_rfl)
      go_wp2_with (first | (at_builtin; refine wpList_append_own _ rfl _ _ 29 rfl w.heap.size 5 i0 (.int .u8 0) 1 1 Try.underlying29 hi hz0 hz1 hz2 rfl (by decide) _ _ _ rfl hown1 ⟨wr.heap.size, 0, none⟩ arr.size arr.size (Lib.runeCells xs[k]) rfl ?c1 ?c2 ?c3 ?c4 ?c5 ?c6 ?c7))
      case c1 => rw [← harr]; simp
      case c2 =>
        intro j u hu
        rw [← harr] at hu
        rw [add_plain, World.cell?_alloc_at _ _ _ _ rfl]
        simpa using hu
      case c3 =>
        intro u hu
        simp only [Lib.runeCells, List.mem_map] at hu
        obtain ⟨x, _, rfl⟩ := hu
        rfl
      case c4 => unfold maxLen; omega
      case c5 => omega
      case c6 => rw [hz]; have := hb.size; omega
      case c7 =>
        intro v' w' ho hg _
        have hs1 : w.heap.size ≤ wr.heap.size := hb.size
        have hs2 : w.heap.size ≤ (wr.alloc (.cells arr 5)).heap.size := by rw [hz]; omega
        have hb1 : Below w.heap.size w (wr.alloc (.cells arr 5)) := hb.alloc hs1 _
        have hb' : Below w.heap.size w w' := hb1.grown hg hs2 (own_ge hown1)
        go_wp2
        refine ⟨⟨k + 1, hlt, by go_num, ?_, hb'⟩, by simp [intOf]; omega⟩
        have he : enc (xs.take (k + 1)) = enc (xs.take k) ++ Lib.runeCells xs[k] := by
          rw [List.take_add_one, List.getElem?_eq_getElem hlt]
          simp only [enc, Option.toList_some, List.flatMap_append, List.flatMap_cons, List.flatMap_nil, List.append_nil]
        rw [he, List.length_append]
        rw [show (Lib.runeCells xs[k]).length = arr.size by rw [← harr]; simp]
        exact ho
    · obtain rfl : k = xs.length := by omega
      rw [List.take_length, enc_nums] at hown
      have hconv := own_text (by simp) hown
      go_wp2
      go_ret
      exact ⟨rfl, hb⟩
end Go.Proofs.Ytllfgkfcbicnlaa
