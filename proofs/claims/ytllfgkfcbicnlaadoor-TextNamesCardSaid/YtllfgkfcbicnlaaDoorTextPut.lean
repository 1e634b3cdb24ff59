/- text.Put: the text of code points, or what is wrong. Conditions: at most 17,000 of them. -/
import Derived.Test.YtllfgkfcbicnlaaDoorRefPut
import Derived.Test.YtllfgkfcbicnlaaDoorShelf
namespace Go.Proofs.YtllfgkfcbicnlaaDoor
open Go.RowKit Go.ChangeShapes Go.WideShapes Go.ChangeAt
theorem ownF_ge {w : World} {base n : Nat} {e : TypeId} {sz : Nat} {v : Value} {xs : List Value} (h : w.ownsRowF base e sz v n xs) : ∀ g, v.ownBlock = some g → base ≤ g := by
  intro g hg
  rcases h.2 with ⟨rfl, _⟩ | ⟨g', cap, cur, fz, rfl, hg', r⟩
  · simp [Value.ownBlock] at hg
  · simp [Value.ownBlock] at hg
    subst hg
    exact hg'
theorem Rd.of_ownF {w : World} {base n c : Nat} {e : TypeId} {A : Option Addr} {xs : List Value} (h : w.ownsRowF base e 1 (.slice A n c) n xs) : Rd w w.heap.size A xs := by
  obtain ⟨h1, h2⟩ := h
  rcases h2 with ⟨h3, rfl⟩ | ⟨g, cap, cur, fz, h3, hg, hh, hf, hn, hc, hs, ht⟩
  · left
    exact List.eq_nil_of_length_eq_zero (by omega)
  · simp only [Value.slice.injEq] at h3
    obtain ⟨rfl, _, rfl⟩ := h3
    right
    refine ⟨g, 0, rfl, ?_, fun j hj => ?_⟩
    · rcases Nat.lt_or_ge g w.heap.size with h | h
      · exact h
      · rw [Array.getElem?_eq_none h] at hh; cases hh
    · subst ht
      simp only [World.cell?, hh, Nat.zero_add]
      simp
theorem ownF_slice {w : World} {base n : Nat} {e : TypeId} {sz : Nat} {v : Value} {xs : List Value} (h : w.ownsRowF base e sz v n xs) : ∃ A c, v = .slice A n c := by
  rcases h.2 with ⟨h3, rfl⟩ | ⟨g, cap, cur, fz, h3, _⟩
  · exact ⟨none, 0, h3⟩
  · exact ⟨_, cap, h3⟩
theorem ownF_text {w : World} {base n : Nat} {v : Value} {zs : List Int} (hn : n = zs.length) (h : w.ownsRowF base 5 1 v n (zs.map (Value.int .u8))) :
    (convert 40 9 v).run Tryd.prog w = .ok (.string (strOfNums zs)) w := by
  subst hn
  obtain ⟨A, c, rfl⟩ := ownF_slice h
  rcases Rd.of_ownF h with h0 | ⟨b, off, rfl, _, hc⟩
  · obtain rfl : zs = [] := by simpa using h0
    exact run_convert_bytes_zero w _ _ Tryd.underlying40 Tryd.underlying5 A c _ Tryd.underlying9
  · exact run_convert_bytes_arg w _ _ Tryd.underlying40 Tryd.underlying5 b off _ c zs rfl (fun i hi => by rw [hc i (by simpa using hi)]; simp [List.getD, List.getElem?_eq_getElem hi]) _ Tryd.underlying9
theorem textput_any (A : Option Addr) (c : Nat) (xs : List Int) (w : World) {B : Nat} (hx : Rd w B A (iv xs)) (hB : B ≤ w.heap.size) (hn : xs.length ≤ 17000) :
    Calls Tryd.prog 21 #[.slice A xs.length c] w fun e w' => e = .returned (.tuple #[.string (putOf xs).1, .int .i64 (putOf xs).2]) ∧ Below w.heap.size w w' := by
  go_enter Tryd.func21, Tryd.ntmps21
  by_cases h : (16384 : Int) < xs.length
  · go_wp2
    have h' : 16384 < xs.length := by omega
    refine bodyPost_ret (v := .tuple #[.string (putOf xs).1, .int .i64 (putOf xs).2]) (by simp [results, Tryd.results21, go_sem, putOf, h']) rfl ⟨rfl, Below.refl _ _⟩
  · have h' : ¬ 16384 < xs.length := by omega
    go_wp2
    go_loopw [4, 6, 12] (fun b n i wr => ∃ k : Nat, k ≤ xs.length ∧ i = .int .i64 k ∧ (∀ x ∈ xs.take k, isPoint x = true) ∧ wr.ownsRowF w.heap.size 5 1 b (enc (xs.take k)).length (enc (xs.take k)) ∧ Below w.heap.size w wr) (fun _ _ i _ => xs.length - (intOf i).toNat)
    case atStart => exact ⟨0, Nat.zero_le _, rfl, by simp, by simp [enc, World.ownsRowF], Below.refl _ _⟩
    case round =>
      obtain ⟨k, hk, rfl, hp, hown, hb⟩ := hrel
      have hxr := Rd.thru hx hb hB
      by_cases hlt : k < xs.length
      · obtain ⟨b, off, rfl, hcell⟩ : ∃ b off, A = some ⟨b, off, none⟩ ∧ wr.cell? ⟨b, off + k, none⟩ = some (.int .i64 xs[k]) := by
          rcases hxr with h | ⟨b, off, e, _, h⟩
          · simp [iv] at h
            subst h
            simp at hlt
          · exact ⟨b, off, e, by simpa [iv] using h k (by simpa [iv] using hlt)⟩
        have bad : isPoint xs[k] = false → xs.all isPoint = false := fun hbad => List.all_eq_false.2 ⟨_, List.getElem_mem hlt, by simp [hbad]⟩
        by_cases h1 : xs[k] < 0
        · have hall := bad (by simp [isPoint]; omega)
          go_wp2
          refine bodyPost_ret (v := .tuple #[.string (putOf xs).1, .int .i64 (putOf xs).2]) (by simp [results, Tryd.results21, go_sem, putOf, h', hall]) rfl ⟨rfl, hb⟩
        · by_cases h2 : 1114111 < xs[k]
          · have hall := bad (by simp [isPoint]; omega)
            go_wp2
            refine bodyPost_ret (v := .tuple #[.string (putOf xs).1, .int .i64 (putOf xs).2]) (by simp [results, Tryd.results21, go_sem, putOf, h', hall]) rfl ⟨rfl, hb⟩
          · go_wp2_with fail
            have hv : Lib.validRune xs[k] = isPoint xs[k] := by
              unfold Lib.validRune isPoint
              by_cases q : xs[k] < 55296
              · simp [h1, h2, q]
              · by_cases q2 : 57343 < xs[k]
                · simp [h1, h2, q2]
                · simp [h1, h2, q, q2]
            refine (Tryd.utf8_ValidRune xs[k] wr).mono ?_
            rintro e w1 ⟨rfl, rfl⟩
            rw [hv]
            cases hpk : isPoint xs[k] with
            | false =>
              have hall := bad hpk
              go_wp2
              refine bodyPost_ret (v := .tuple #[.string (putOf xs).1, .int .i64 (putOf xs).2]) (by simp [results, Tryd.results21, go_sem, putOf, h', hall]) rfl ⟨rfl, hb⟩
            | true =>
              go_wp2_with fail
              have hlen : (enc (xs.take k)).length ≤ 68000 := enc_len xs k hn
              refine (Tryd.utf8_AppendRune_row w.heap.size u4 _ _ xs[k] (by omega) (by omega) w1 hown (by omega) hb.size).mono ?_
              rintro e w2 ⟨v', rfl, ho, o, hg⟩
              have hs1 : w.heap.size ≤ w1.heap.size := hb.size
              have hb1 : Below w.heap.size w (w1.alloc o) := hb.alloc hs1 _
              have hb' : Below w.heap.size w w2 := hb1.grown hg (by simp; omega) (ownF_ge hown)
              go_wp2
              refine ⟨⟨k + 1, hlt, by go_num, ?_, ?_, hb'⟩, by simp [intOf]; omega⟩
              · intro x hx'
                rw [List.take_add_one, List.getElem?_eq_getElem hlt, List.mem_append] at hx'
                rcases hx' with h1 | h1
                · exact hp x h1
                · simp at h1
                  rw [h1]
                  exact hpk
              · have he : enc (xs.take (k + 1)) = enc (xs.take k) ++ Lib.runeCells xs[k] := by
                  rw [List.take_add_one, List.getElem?_eq_getElem hlt]
                  simp only [enc, Option.toList_some, List.flatMap_append, List.flatMap_cons, List.flatMap_nil, List.append_nil]
                rw [he, List.length_append]
                exact ho
      · obtain rfl : k = xs.length := by omega
        rw [List.take_length] at hp
        have hall : xs.all isPoint = true := List.all_eq_true.2 hp
        rw [List.take_length, enc_nums] at hown
        have hconv := ownF_text (by simp) hown
        go_wp2
        refine bodyPost_ret (v := .tuple #[.string (putOf xs).1, .int .i64 (putOf xs).2]) (by simp [results, Tryd.results21, go_sem, putOf, h', hall]) rfl ⟨rfl, hb⟩
end Go.Proofs.YtllfgkfcbicnlaaDoor
