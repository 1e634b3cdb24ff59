/- OrderOne: for any four strings the order is one order, and what stands ahead of both counts for nothing: the call returns true, and the strings read as before. Conditions: none. -/
import Derived.Test.YtgicbpoicejmbaaRows
import Derived.Test.YtgicbpoicejmbaaAlive
import Derived.Test.YtgicbpoicejmbaaOpen
import Derived.WalkKit
import Derived.ProofKit
namespace Go.Proofs.Ytgicbpoicejmbaa.orderOne
open Go.ChangeShapes Go.WideShapes Go.ChangeAt Go.RowKit
open Go.ChangeMaps (open_string shut_string)

theorem scmp_cases (a b : ByteArray) : (scmp a b = -1 ∧ slt a b = true) ∨ (scmp a b = 0 ∧ a = b) ∨ (scmp a b = 1 ∧ slt b a = true) := by
  unfold scmp
  cases h1 : slt a b
  · cases h2 : slt b a
    · right; left
      exact ⟨by simp, slt_total a b h1 h2⟩
    · right; right
      exact ⟨by simp, rfl⟩
  · left
    exact ⟨by simp, rfl⟩
theorem scmp_neg (a b : ByteArray) : scmp b a = - scmp a b := by
  rcases scmp_cases a b with ⟨h, h1⟩ | ⟨h, h1⟩ | ⟨h, h1⟩
  · rw [h]; unfold scmp; rw [slt_asymm a b h1, h1]; simp
  · subst h1; rw [h]; rfl
  · rw [h]; unfold scmp; rw [h1]; simp
theorem scmp_zero (a b : ByteArray) : scmp a b = 0 ↔ a = b := by
  rcases scmp_cases a b with ⟨h, h1⟩ | ⟨h, h1⟩ | ⟨h, h1⟩
  · constructor
    · intro e; omega
    · rintro rfl; rw [less_irrefl] at h1; cases h1
  · exact ⟨fun _ => h1, fun _ => h⟩
  · constructor
    · intro e; omega
    · rintro rfl; rw [less_irrefl] at h1; cases h1
theorem scmp_range (a b : ByteArray) : -1 ≤ scmp a b ∧ scmp a b ≤ 1 := by
  rcases scmp_cases a b with ⟨h, _⟩ | ⟨h, _⟩ | ⟨h, _⟩ <;> omega
theorem scmp_trans (a b c : ByteArray) (h1 : scmp a b ≤ 0) (h2 : scmp b c ≤ 0) : scmp a c = min (scmp a b) (scmp b c) := by
  rcases scmp_cases a b with ⟨e1, k1⟩ | ⟨e1, rfl⟩ | ⟨e1, k1⟩
  · rcases scmp_cases b c with ⟨e2, k2⟩ | ⟨e2, rfl⟩ | ⟨e2, k2⟩
    · have : scmp a c = -1 := by unfold scmp; rw [slt_trans a b c k1 k2]; rfl
      omega
    · omega
    · omega
  · omega
  · omega

theorem bytesLess_app (p x y : List UInt8) : Op.bytesLess (p ++ x) (p ++ y) = Op.bytesLess x y := by
  induction p with
  | nil => rfl
  | cons c p ih => simp [Op.bytesLess, ih]
theorem scmp_app (p a b : ByteArray) : scmp (p ++ a) (p ++ b) = scmp a b := by
  have e : ∀ x y : ByteArray, slt (p ++ x) (p ++ y) = slt x y := by
    intro x y
    unfold slt
    rw [Lib.toList_data, Lib.toList_data, Lib.toList_data, Lib.toList_data]
    have : ∀ z : ByteArray, (p ++ z).data.toList = p.data.toList ++ z.data.toList := by
      intro z
      simp [ByteArray.data_append]
    rw [this, this, bytesLess_app]
  unfold scmp
  rw [e, e]

set_option maxHeartbeats 2000000 in
theorem walk (a b c p : ByteArray) (w : World) (ha : a.size ≤ 140737488351232) (hb : b.size ≤ 140737488351232) (hp : p.size ≤ 140737488351232) :
    Calls Try.prog 4 #[.string a, .string b, .string c, .string p] w fun e w' => e = .returned (.bool true) ∧ Below w.heap.size w w' := by
  have n1 := scmp_neg a b
  have z1 : (scmp a b == 0) = (a.toList == b.toList) := by
    rw [ba_beq, Bool.eq_iff_iff, beq_iff_eq, decide_eq_true_iff]
    exact scmp_zero a b
  have r1 := (scmp_range a b).1
  have r1' := (scmp_range a b).2
  have p1 := scmp_app p a b
  by_cases h1 : scmp a b ≤ 0
  · by_cases h2 : scmp b c ≤ 0
    · have t1 : (scmp a c != min (scmp a b) (scmp b c)) = false := by rw [bne_eq_false_iff_eq]; exact scmp_trans a b c h1 h2
      go_enter Try.func4, Try.ntmps4
      go_wp2_with fail
      refine (alive_any w).mono ?_
      rintro e w1 ⟨rfl, hb⟩
      go_wp2_with (go_at_call 9; refine (compare_any _ _ _).mono ?_; rintro e w' ⟨rfl, rfl⟩)
      go_ret
      exact ⟨ret_bool (by simp), hb⟩
    · go_enter Try.func4, Try.ntmps4
      go_wp2_with fail
      refine (alive_any w).mono ?_
      rintro e w1 ⟨rfl, hb⟩
      go_wp2_with (go_at_call 9; refine (compare_any _ _ _).mono ?_; rintro e w' ⟨rfl, rfl⟩)
      go_ret
      exact ⟨ret_bool (by simp), hb⟩
  · go_enter Try.func4, Try.ntmps4
    go_wp2_with fail
    refine (alive_any w).mono ?_
    rintro e w1 ⟨rfl, hb⟩
    go_wp2_with (go_at_call 9; refine (compare_any _ _ _).mono ?_; rintro e w' ⟨rfl, rfl⟩)
    go_ret
    exact ⟨ret_bool (by simp), hb⟩

theorem own : ownKnob Try.prog.godebug = none := by kernel_rfl
theorem laidOut : laidOutB Try.prog = true := by kernel_rfl
set_option maxRecDepth 100000 in
theorem lifted (os : Os) (started : os.Started) (H : Type) (enc : TypeId × Value → H) :
    ReturnsInHanded {} Try.checked os 4 .any (Rows.orderOneSpec.pre6 enc Try.prog Try.f4 Rows.orderOneRow.domain false) (Rows.orderOneSpec.post enc Try.prog Try.f4 false true false false) := by
  refine returnsInHanded_of_change_shaped (C := Try.checked) own started (by kernel_rfl) Try.func4
    (ChangeSpec.witness6 (enc := enc) (C := Try.checked) false ⟨#[], #[.string ⟨#[]⟩, .string ⟨#[]⟩, .string ⟨#[]⟩, .string ⟨#[]⟩], []⟩ 8 (by kernel_rfl) (by kernel_rfl) (by kernel_rfl) (by kernel_rfl)) ?_
  intro W base args ds gs before hval0 hW _ hsz0 hsh0 _
  have hsh : W.ShapedOpen Try.prog := hsh0
  have hsz : (DataW.weightsEach Try.prog (Try.f4.params.toList ++ Rows.orderOneSpec.plain.varTypes Try.prog) (ds ++ gs)).all (· ≤ reachBytes) = true := hsz0
  clear hsz0 hsh0
  have hval : ∀ (j : Nat) t v, Try.f4.params[j]? = some t → args[j]? = some v → Value.okWide Try.prog W .any base t v := hval0
  have hW' := hW
  obtain ⟨p, q, hA0, hV, rfl, hfz, hnd⟩ := hW
  have hA : DataW.TrodAll enc Try.prog W 0 (fun _ => true) true Try.f4.params.toList args.toList ds p := hA0
  rw [Try.params4] at hA hval hsz
  have hlt0 : ∀ x ∈ p, x.block < W.heap.size := fun x hx => hW'.lt x (by simp [hx])
  obtain ⟨v0, vs0, d0, ds0, p0, q0, hargs, rfl, rfl, h0, r0⟩ := trodAll_cons hA
  obtain ⟨v1, vs1, d1, ds1, p1, q1, rfl, rfl, rfl, h1, r1⟩ := trodAll_cons r0
  obtain ⟨v2, vs2, d2, ds2, p2, q2, rfl, rfl, rfl, h2, r2⟩ := trodAll_cons r1
  obtain ⟨v3, vs3, d3, ds3, p3, q3, rfl, rfl, rfl, h3, r3⟩ := trodAll_cons r2
  obtain ⟨rfl, rfl, rfl⟩ := trodAll_nil r3
  obtain rfl : args = #[v0, v1, v2, v3] := by cases args; simp_all
  obtain ⟨rfl, rfl⟩ := trodVars_none hV
  obtain ⟨a, rfl, rfl, rfl, wa⟩ := open_string Try.underlying9 (hval 0 9 v0 rfl rfl) h0
  have ra : a.size ≤ 140737488351232 := by
    have := sized_string hsz (j := 0) rfl rfl
    simpa [reachBytes] using this
  obtain ⟨b, rfl, rfl, rfl, wb⟩ := open_string Try.underlying9 (hval 1 9 v1 rfl rfl) h1
  have rb : b.size ≤ 140737488351232 := by
    have := sized_string hsz (j := 1) rfl rfl
    simpa [reachBytes] using this
  obtain ⟨c, rfl, rfl, rfl, wc⟩ := open_string Try.underlying9 (hval 2 9 v2 rfl rfl) h2
  have rc : c.size ≤ 140737488351232 := by
    have := sized_string hsz (j := 2) rfl rfl
    simpa [reachBytes] using this
  obtain ⟨p, rfl, rfl, rfl, wp⟩ := open_string Try.underlying9 (hval 3 9 v3 rfl rfl) h3
  have rp : p.size ≤ 140737488351232 := by
    have := sized_string hsz (j := 3) rfl rfl
    simpa [reachBytes] using this
  clear hA0 hval0
  refine (walk a b c p W ra rb rp).mono fun e W' ⟨he, hb⟩ => ⟨_, he, ?_⟩
  exact law_post laidOut (of_decide_eq_true (by kernel_rfl)) rfl rfl Try.underlying4 (fun ds hl => by
    match ds, hl with
    | [_, _, _, _], _ => rfl) hW' hb

theorem proved : Rows.OrderOneSaid :=
  OpenClaim.holds_of_wide 4 Try.f4 rfl rfl rfl rfl rfl rfl rfl ⟨rfl, rfl, rfl, rfl, rfl⟩ rfl rfl rfl rfl rfl (by kernel_rfl) Try.func4 (by kernel_rfl)
    (of_decide_eq_true (by kernel_rfl)) (by unfold Func.isWrapper; first | (rw [if_pos (by decide +kernel)]; kernel_rfl) | (rw [if_neg (by decide +kernel)]; exact ⟨rfl, rfl⟩))
    (fun os started H enc _ => lifted os started H enc)
end Go.Proofs.Ytgicbpoicejmbaa.orderOne
