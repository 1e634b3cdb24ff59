/- Contract of order.Sort: the strings sorted, each once, in new memory; an error at too many. Conditions: lengths within the model's. -/
import Derived.Test.YtgicbpoicejmbaaSort
import Derived.Laws.AppendOwn
namespace Go.Proofs.Ytgicbpoicejmbaa
open Go.RowKit
def sortL (xs : List ByteArray) : List ByteArray := if xs.length ≤ 4096 then sortB xs else []
def sortC (xs : List ByteArray) : Int := if xs.length ≤ 4096 then 0 else 4
def SortPost (w : World) (xs : List ByteArray) (e : Ending) (w' : World) : Prop :=
  ∃ v, e = .returned (.tuple #[v, .int .i64 (sortC xs)]) ∧ w'.ownsRow w.heap.size 9 1 v (sortL xs).length (sv (sortL xs)) ∧ Below w.heap.size w w'
theorem info_word : (Try.prog.info? 44).map (fun i => (i.zero, i.size, i.bytes)) = some (some (.string ⟨#[]⟩), 1, 16) := by kernel_rfl
theorem info_str : (Try.prog.info? 9).map (fun i => (i.zero, i.size, i.bytes)) = some (some (.string ⟨#[]⟩), 1, 16) := by kernel_rfl
theorem sv_take (xs : List ByteArray) (k : Nat) (h : k < xs.length) : sv (xs.take (k + 1)) = sv (xs.take k) ++ [.string xs[k]] := by
  unfold sv
  rw [List.take_succ_eq_append_getElem h, List.map_append]
  rfl
theorem lit_at (w : World) (v : Value) (t : TypeId) (j : Nat) (u : Value) (hu : [v][j]? = some u) : (w.alloc (.cells #[v] t)).cell? ((⟨w.heap.size, 0, none⟩ : Addr).add j) = some u := by
  cases j with
  | zero =>
    simp at hu
    subst hu
    simp [World.cell?_alloc_new, Addr.add_lit]
  | succ j => simp at hu
theorem sorted_rows (xs : List ByteArray) : wv (Lib.compact (srt (xs.map fun s => s.data.toList))) = sv (sortB xs) := by
  unfold sortB
  rw [sv_wv]
theorem own_ge {w : World} {base n : Nat} {e : TypeId} {sz : Nat} {v : Value} {xs : List Value} (h : w.ownsRow base e sz v n xs) : ∀ k, v.ownBlock = some k → base ≤ k := fun k hk => (h.lt k hk).1
set_option maxHeartbeats 4000000 in
theorem sort_any (A : Option Addr) (c : Nat) (xs : List ByteArray) (w : World) {B : Nat} (hx : Rd w B A (sv xs)) (hB : B ≤ w.heap.size) (hn : xs.length ≤ maxLen) :
    Calls Try.prog 18 #[.slice A xs.length c] w (SortPost w xs) := by
  unfold maxLen at hn
  by_cases hm : xs.length ≤ 4096
  · have hm' : (xs.length : Int) ≤ 4096 := by omega
    obtain ⟨i0, hi, hz0, hz1, hz2⟩ := info_parts info_word
    obtain ⟨i1, hi', hz0', hz1', hz2'⟩ := info_parts info_str
    go_enter Try.func18, Try.ntmps18
    go_wp2
    go_loopw [4, 15] (fun v i wr => ∃ k : Nat, k ≤ xs.length ∧ i = .int .i64 k ∧ wr.ownsRow w.heap.size 44 1 v k (sv (xs.take k)) ∧ Below w.heap.size w wr) (fun _ i _ => xs.length - (intOf i).toNat)
    case atStart => exact ⟨0, Nat.zero_le _, rfl, ⟨rfl, .inl ⟨rfl, rfl⟩⟩, Below.refl _ _⟩
    case round =>
      obtain ⟨k, hk, rfl, hown, hb⟩ := hrel
      have hxr := Rd.thru hx hb hB
      have hsz := hb.size
      by_cases hlt : k < xs.length
      · obtain ⟨b, off, rfl, _, hc⟩ := hxr.str hlt
        have hcell := hc k hlt
        clear hc
        go_wp2_with (first | (at_builtin; refine wpList_append_own _ rfl _ _ 49 rfl w.heap.size 44 i0 (.string ⟨#[]⟩) 1 16 Try.underlying49 hi hz0 hz1 hz2 rfl (by decide) _ _ _ rfl (hown.alloc _) ⟨wr.heap.size, 0, none⟩ 1 1 [.string xs[k]] rfl ?c1 ?c2 ?c3 ?c4 ?c5 ?c6 ?c7))
        case c1 => rfl
        case c2 => intro j u hu; exact lit_at wr _ _ j u hu
        case c3 => intro u hu; simp at hu; subst hu; rfl
        case c4 => unfold maxLen; omega
        case c5 => omega
        case c6 => simp; omega
        case c7 =>
          intro v' w' ho hg _
          have hb1 : Below w.heap.size w (wr.alloc (.cells #[.string xs[k]] 44)) := hb.alloc hsz _
          have hb' : Below w.heap.size w w' := hb1.grown hg (by simp; omega) (own_ge hown)
          rw [← sv_take xs k hlt] at ho
          go_wp2
          refine ⟨⟨k + 1, hlt, by go_num, ho, hb'⟩, by simp [intOf]; omega⟩
      · obtain rfl : k = xs.length := by omega
        rw [List.take_length, ← wv_sv] at hown
        obtain ⟨A2, c2, rfl, hc1, hc2⟩ := own_slice hown
        have hs1 := sortfunc_own wr w.heap.size xs.length c2 A2 _ hown hsz hm
        clear hxr
        go_wp2_with fail
        refine hs1.mono ?_
        rintro e w1 ⟨rfl, hown1, hb1⟩
        clear hs1
        have hs2 := compact_own w1 w.heap.size xs.length c2 A2 _ hown1
        have hb2 := hb.trans hb1
        clear hown hown1 hb hb1 hsz
        go_wp2_with fail
        refine hs2.mono ?_
        rintro e w2 ⟨v, rfl, hown2, hb3⟩
        have hb4 := hb2.trans hb3
        clear hs2 hb2 hb3
        obtain ⟨A3, c3, rfl, hc3, hc4⟩ := own_slice hown2
        have hlen : (Lib.compact (srt (xs.map fun s : ByteArray => s.data.toList))).length = (sortB xs).length := by simp [sortB]
        rw [sorted_rows, hlen] at hown2
        rw [hlen]
        have hle := sortB_len xs
        have hrd := Rd.of_own hown2
        have HL := Lib.hid hlen
        clear hlen
        generalize hys : sortB xs = ys at *
        have HY := Lib.hid hys
        clear hys
        obtain ⟨wo, hwo⟩ : ∃ wo : World, wo = w2 := ⟨_, rfl⟩
        subst hwo
        go_wp2
        have hle2 : ys.length ≤ 4096 := by omega
        have hbs := hb4.size
        go_loopw [7, 29] (fun v i wr => ∃ k : Nat, k ≤ ys.length ∧ i = .int .i64 k ∧ wr.ownsRow wo.heap.size 9 1 v k (sv (ys.take k)) ∧ Below wo.heap.size wo wr) (fun _ i _ => ys.length - (intOf i).toNat)
        case atStart => exact ⟨0, Nat.zero_le _, rfl, ⟨rfl, .inl ⟨rfl, rfl⟩⟩, Below.refl _ _⟩
        case round =>
          obtain ⟨k, hk, rfl, hown, hb⟩ := hrel
          have hxr := Rd.thru hrd hb (Nat.le_refl _)
          have hsz := hb.size
          by_cases hlt : k < ys.length
          · obtain ⟨b, off, rfl, _, hc⟩ := hxr.str hlt
            have hcell := hc k hlt
            clear hc
            go_wp2_with (first | (at_builtin; refine wpList_append_own _ rfl _ _ 26 rfl wo.heap.size 9 i1 (.string ⟨#[]⟩) 1 16 Try.underlying26 hi' hz0' hz1' hz2' rfl (by decide) _ _ _ rfl (hown.alloc _) ⟨wr.heap.size, 0, none⟩ 1 1 [.string ys[k]] rfl ?c1 ?c2 ?c3 ?c4 ?c5 ?c6 ?c7))
            case c1 => rfl
            case c2 => intro j u hu; exact lit_at wr _ _ j u hu
            case c3 => intro u hu; simp at hu; subst hu; rfl
            case c4 => unfold maxLen; omega
            case c5 => omega
            case c6 => simp; omega
            case c7 =>
              intro v' w' ho hg hge
              have hb1 : Below wo.heap.size wo (wr.alloc (.cells #[.string ys[k]] 9)) := hb.alloc hsz _
              have hb' : Below wo.heap.size wo w' := hb1.grown hg (by simp; omega) (own_ge hown)
              rw [← sv_take ys k hlt] at ho
              go_wp2
              refine ⟨⟨k + 1, hlt, by go_num, ho, hb'⟩, by simp [intOf]; omega⟩
          · obtain rfl : k = ys.length := by omega
            rw [List.take_length] at hown
            go_wp2
            go_ret2
            refine ⟨_, by rw [sortC, if_pos hm]; rfl, ?_, hb4.trans (hb.mono hbs)⟩
            rw [sortL, if_pos hm, HY.out]
            exact own_base hown hbs
  · have hd : decide ((4096 : Int) < xs.length) = true := by simp; omega
    go_enter Try.func18, Try.ntmps18
    go_wp2
    go_ret2
    refine ⟨_, by rw [sortC, if_neg hm]; rfl, ?_, Below.refl _ _⟩
    rw [sortL, if_neg hm]
    exact ⟨rfl, .inl ⟨rfl, rfl⟩⟩
end Go.Proofs.Ytgicbpoicejmbaa
