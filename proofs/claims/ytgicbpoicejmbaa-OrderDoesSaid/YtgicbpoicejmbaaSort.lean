/- Contracts of slices.SortFunc and slices.Compact over rows of words that the call owns, and of order.Sort. Conditions: lengths within the model's. -/
import Derived.Test.YtgicbpoicejmbaaSortPlain
import Derived.Test.YtgicbpoicejmbaaShelf2
import Derived.Shelf.SlSortCmp.NoneTotal
import Derived.Shelf.SlicesG.Cells
import Derived.Lib.SortBridge
import Derived.Lib.RowBridge
namespace Go.Proofs.Ytgicbpoicejmbaa
open Go.RowKit Go.Shelf Go.Sort

/-- the order that the program hands over -/
def cfW (x y : List UInt8) : Int := scmp ⟨⟨x⟩⟩ ⟨⟨y⟩⟩
theorem ltW (x y : List UInt8) : ltOf cfW x y = blt x y := by
  unfold ltOf cfW scmp blt
  cases h1 : slt ⟨⟨x⟩⟩ ⟨⟨y⟩⟩
  · cases h2 : slt ⟨⟨y⟩⟩ ⟨⟨x⟩⟩ <;> simp
  · simp
theorem swoW : SWO (ltOf cfW) where
  irrefl x := by rw [ltW]; exact blt_irrefl x
  trans x y z h1 h2 := by rw [ltW] at *; exact blt_trans h1 h2
  ntrans x y z h1 h2 := by rw [ltW] at *; exact ble_trans h2 h1
theorem totW (x y : List UInt8) (h1 : ltOf cfW x y = false) (h2 : ltOf cfW y x = false) : x = y := by rw [ltW] at *; exact blt_total h1 h2
theorem geW : (fun x y : List UInt8 => !ltOf cfW y x) = fun x y => !blt y x := by
  funext x y
  rw [ltW]
theorem cmpW (blk off size : Nat) (w : World) : CmpReads Try.prog 26 #[] encStr cfW blk off size w := fun _ _ _ _ x y =>
  (against_any ⟨⟨x⟩⟩ ⟨⟨y⟩⟩ _).mono fun _ _ ⟨he, hw⟩ => ⟨he, 0, hw.symm⟩
/-- byte rows as values -/
def wv (d : List (List UInt8)) : List Value := d.map encStr
theorem wv_sv (xs : List ByteArray) : wv (xs.map fun s => s.data.toList) = sv xs := by
  unfold wv sv
  rw [List.map_map]
  rfl
theorem sv_wv (d : List (List UInt8)) : sv (d.map fun l => ⟨⟨l⟩⟩) = wv d := by
  unfold wv sv
  rw [List.map_map]
  rfl
theorem own_grow {w : World} {base n : Nat} {e : TypeId} {v : Value} {xs : List Value} (h : w.ownsRow base e 1 v n xs) (os : Array Obj) : (grow w os).ownsRow base e 1 v n xs :=
  own_below h (by
    refine ⟨rfl, rfl, rfl, by simp [grow], fun i hi => ?_⟩
    exact heap_grow_old w os hi) (own_lt h)
theorem below_grow (B : Nat) (w : World) (os : Array Obj) (h : B ≤ w.heap.size) : Below B w (grow w os) :=
  ⟨rfl, rfl, rfl, by simp [grow], fun i hi => heap_grow_old w os (by omega)⟩
theorem own_set {w : World} {base g c : Nat} {e : TypeId} {cur : Array Value} (hh : w.heap[g]? = some (.cells cur e (0, 0))) (hg : base ≤ g) (hc : cur.size = c) (hm : c ≤ maxLen) (vs zs : List Value) (hl : vs.length + zs.length ≤ c) :
    (w.setCells g 0 (vs ++ zs)).ownsRow base e 1 (.slice (some ⟨g, 0, none⟩) vs.length c) vs.length vs := by
  have hh' := heap_setCells (vs ++ zs) 0 w cur hh
  refine ⟨by omega, .inr ⟨g, c, _, rfl, hg, hh', by omega, hm, by rw [putA_size]; omega, ?_⟩⟩
  rw [Nat.mul_one, putA_list _ _ _ (by simp; omega), List.take_zero, List.nil_append, List.append_assoc]
  exact List.take_left' rfl
theorem holds_own {w : World} {g : Nat} {e : TypeId} {cur : Array Value} {d : List (List UInt8)} (hh : w.heap[g]? = some (.cells cur e (0, 0))) (ht : cur.toList.take d.length = wv d) : Holds encStr w g 0 d.toArray := by
  intro j hj
  have hj' : j < d.length := by simpa using hj
  refine ⟨?_, by simp [World.frozen?, hh]⟩
  simp only [World.cell?, hh, Nat.zero_add]
  have : (cur.toList.take d.length)[j]? = (wv d)[j]? := by rw [ht]
  rw [List.getElem?_take, if_pos hj'] at this
  simp only [Array.getElem?_toList] at this
  rw [this]
  simp [wv, getElem!_pos, hj']

set_option maxHeartbeats 1000000 in
theorem sortfunc_own (w : World) (base n c : Nat) (A : Option Addr) (d : List (List UInt8)) (hown : w.ownsRow base 44 1 (.slice A n c) n (wv d)) (hb : base ≤ w.heap.size) (hsm : n ≤ 4096) :
    Calls Try.prog 32 #[.slice A n c, .func (.func 26) #[] #[]] w fun e w' =>
      e = .returned (.tuple #[]) ∧ w'.ownsRow base 44 1 (.slice A n c) n (wv (srt d)) ∧ Below base w w' := by
  have hlen : d.length = n := by have := hown.1; simp [wv] at this; omega
  obtain ⟨h0, h2⟩ := hown
  rcases h2 with ⟨h3, rfl⟩ | ⟨g, cap, cur, h3, hg, hh, hnc, hcm, hcs, ht⟩
  · have hd : d = [] := List.eq_nil_of_length_eq_zero hlen
    subst hd
    cases h3
    refine (AnyF.slices_SortFunc_none (P := Try.prog) (ρ := Try.sortL_ren) { Try.sortL with } none 0 (.func (.func 26) #[] #[]) w).mono ?_
    rintro e w' ⟨rfl, rfl⟩
    have hs0 : srt [] = [] := List.eq_nil_of_length_eq_zero (by rw [srt_len]; rfl)
    rw [hs0]
    exact ⟨rfl, ⟨rfl, .inl ⟨rfl, rfl⟩⟩, Below.refl _ _⟩
  · simp only [Value.slice.injEq] at h3
    obtain ⟨rfl, _, rfl⟩ := h3
    rw [Nat.mul_one] at hcs ht
    subst hlen
    have hH := holds_own hh ht
    have hblk : g < w.heap.size := (Array.getElem?_eq_some_iff.1 hh).1
    have eg : ∀ args w, (callFunc 26 args).run Try.prog w = .ok (.enter 26 args) w := enters_of Try.func26 (by kernel_rfl) rfl
    have hS := Any.slices_SortFunc_total Try.sortL encStr (fun _ => rfl) cfW swoW 26 #[] g 0 c d.toArray w eg (cmpW g 0 d.toArray.size w).lays hH hblk (by simp; omega) totW
    rw [geW] at hS
    have hsz : d.toArray.size = d.length := by simp
    rw [hsz] at hS
    refine hS.mono ?_
    rintro e w' ⟨rfl, q, os, rfl⟩
    rw [show (d.toArray.toList.mergeSort fun x y => !blt y x) = srt d from rfl]
    unfold sortWorld
    rw [Lib.sorted_world encStr w g 0 q d.toArray (srt d) os hH (by rw [srt_len]; simp)]
    have hs := own_set (w := w.drewN q) (base := base) (e := 44) hh hg hcs hcm (wv (srt d)) [] (by simp [wv, srt_len]; omega)
    rw [List.append_nil, show (wv (srt d)).length = d.length by simp [wv, srt_len]] at hs
    refine ⟨rfl, own_grow hs os, ?_⟩
    refine ((Below.of_drewN base w q).trans (below_setCells' hg _ _ _)).trans (below_grow _ _ _ ?_)
    rw [heap_size_setCells]
    exact hb

set_option maxHeartbeats 1000000 in
theorem compact_own (w : World) (base n c : Nat) (A : Option Addr) (d : List (List UInt8)) (hown : w.ownsRow base 44 1 (.slice A n c) n (wv d)) :
    Calls Try.prog 33 #[.slice A n c] w fun e w' =>
      ∃ v, e = .returned v ∧ w'.ownsRow base 44 1 v (Lib.compact d).length (wv (Lib.compact d)) ∧ Below base w w' := by
  have hlen : d.length = n := by have := hown.1; simp [wv] at this; omega
  obtain ⟨h0, h2⟩ := hown
  rcases h2 with ⟨h3, rfl⟩ | ⟨g, cap, cur, h3, hg, hh, hnc, hcm, hcs, ht⟩
  · have hd : d = [] := List.eq_nil_of_length_eq_zero hlen
    subst hd
    cases h3
    refine (AnyG.slices_Compact_string_empty Try.compactL none 0 w).mono ?_
    rintro e w' ⟨rfl, rfl⟩
    exact ⟨_, rfl, ⟨rfl, .inl ⟨rfl, rfl⟩⟩, Below.refl _ _⟩
  · simp only [Value.slice.injEq] at h3
    obtain ⟨rfl, _, rfl⟩ := h3
    rw [Nat.mul_one] at hcs ht
    subst hlen
    have hH := holds_own hh ht
    have hcc : (Lib.compact d).length ≤ d.length := by
      unfold Lib.compact Lib.compactUpTo
      rw [List.length_map]
      exact Nat.le_trans (List.length_filter_le _ _) (by simp)
    have hS := AnyG.slices_Compact_string_cells Try.compactL g 0 d.length c (fun j => ⟨⟨d.getD j []⟩⟩) w (by unfold maxLen at hcm; omega) hnc (fun j hj => by
      have := (hH j (by simpa using hj)).1
      rw [this]
      simp [getElem!_pos, hj, List.getD, encStr]) (fun j hj => (hH j (by simpa using hj)).2)
    have hst : Lib.strsOf (fun j => ⟨⟨d.getD j []⟩⟩) d.length = d := by
      apply List.ext_getElem
      · simp [Lib.strsOf]
      · intro i h1 h2
        simp [Lib.strsOf, List.getD, List.getElem?_eq_getElem h2]
    rw [hst] at hS
    refine hS.mono ?_
    rintro e w' ⟨rfl, q, rfl⟩
    rw [List.map_append]
    have hs := own_set (w := w.drewN q) (base := base) (e := 44) hh hg hcs hcm (wv (Lib.compact d)) ((List.replicate (d.length - (Lib.compact d).length) []).map encStr) (by simp [wv]; omega)
    rw [show (wv (Lib.compact d)).length = (Lib.compact d).length by simp [wv]] at hs
    exact ⟨_, rfl, hs, (Below.of_drewN base w q).trans (below_setCells' hg _ _ _)⟩
end Go.Proofs.Ytgicbpoicejmbaa
