/- The chapter's first examples hold: 'alive' gives true, and nothing that was there has changed. Conditions: none. -/
import Derived.Test.YtgicbpoicejmbaaPut
namespace Go.Proofs.Ytgicbpoicejmbaa
open Go.RowKit

theorem slt_lit (l m : List UInt8) : slt ⟨⟨l⟩⟩ ⟨⟨m⟩⟩ = Op.bytesLess l m := by
  unfold slt
  rw [Lib.toList_data, Lib.toList_data]

theorem al_ok : okB [⟨#[97]⟩, ⟨#[99]⟩] = true := by
  rw [okB_yes (by decide)]
  intro i hi
  have : i = 0 := by simp at hi; omega
  subst this
  show slt ⟨⟨[97]⟩⟩ ⟨⟨[99]⟩⟩ = true
  rw [slt_lit]; decide
theorem al_before : before [⟨#[97]⟩, ⟨#[99]⟩] ⟨#[98]⟩ = 1 := by
  unfold before
  have h1 : slt ⟨#[97]⟩ ⟨#[98]⟩ = true := by
    show slt ⟨⟨[97]⟩⟩ ⟨⟨[98]⟩⟩ = true
    rw [slt_lit]; decide
  have h2 : slt ⟨#[99]⟩ ⟨#[98]⟩ = false := by
    show slt ⟨⟨[99]⟩⟩ ⟨⟨[98]⟩⟩ = false
    rw [slt_lit]; decide
  simp [h1, h2]
theorem al_has : hasB [⟨#[97]⟩, ⟨#[99]⟩] ⟨#[98]⟩ = false := by
  unfold hasB
  rw [al_before]
  decide
theorem al_put : putL [⟨#[97]⟩, ⟨#[99]⟩] ⟨#[98]⟩ = [⟨#[97]⟩, ⟨#[98]⟩, ⟨#[99]⟩] ∧ putC [⟨#[97]⟩, ⟨#[99]⟩] ⟨#[98]⟩ = 0 := by
  unfold putL putC
  rw [al_ok, al_has, al_before]
  exact ⟨rfl, rfl⟩
theorem scmp_lit (l m : List UInt8) : scmp ⟨⟨l⟩⟩ ⟨⟨m⟩⟩ = if Op.bytesLess l m = true then -1 else if Op.bytesLess m l = true then 1 else 0 := by
  unfold scmp
  rw [slt_lit, slt_lit]

set_option maxHeartbeats 2000000 in
theorem alive_any (w : World) : Calls Try.prog 11 #[] w fun e w' => e = .returned (.bool true) ∧ Below w.heap.size w w' := by
  go_enter Try.func11, Try.ntmps11
  go_wp2_with fail
  refine (find_yes (some ⟨w.heap.size, 0, none⟩) 2 [⟨#[97]⟩, ⟨#[99]⟩] ⟨#[98]⟩ _ (rd_new w #[.string ⟨#[97]⟩, .string ⟨#[99]⟩] 9 _ rfl) al_ok).mono ?_
  rintro e w1 ⟨rfl, n, hd⟩
  have hb1 : Below w.heap.size w w1 := by rw [hd]; exact ((Below.refl _ _).alloc (Nat.le_refl _) _).drewN' _
  clear hd
  have hs1 := hb1.size
  rw [al_before, al_has]
  go_wp2_with fail
  refine (put_any (some ⟨w1.heap.size, 0, none⟩) 2 [⟨#[97]⟩, ⟨#[99]⟩] ⟨#[98]⟩ _ (rd_new w1 #[.string ⟨#[97]⟩, .string ⟨#[99]⟩] 9 _ rfl) (by decide)).mono ?_
  rintro e w2 ⟨v, rfl, hown, hb⟩
  rw [al_put.1] at hown
  rw [al_put.2]
  obtain ⟨A, c, rfl, hc1, hc2⟩ := own_slice hown
  have hrd := Rd.of_own hown
  have hb2 : Below w.heap.size w w2 := (hb1.alloc hs1 _).trans (hb.mono (by simp; omega))
  have hs2 := hb2.size
  clear hown hb hb1
  have s1 : scmp ⟨#[97]⟩ ⟨#[98]⟩ = -1 := (scmp_lit [97] [98]).trans (by decide)
  have s2 : scmp ⟨#[98]⟩ ⟨#[97]⟩ = 1 := (scmp_lit [98] [97]).trans (by decide)
  have s3 : scmp ⟨#[97]⟩ ⟨#[97, 98]⟩ = -1 := (scmp_lit [97] [97, 98]).trans (by decide)
  have s4 : scmp ⟨#[]⟩ ⟨#[]⟩ = 0 := (scmp_lit [] []).trans (by decide)
  go_wp2_with (go_at_call 9; refine (compare_any _ _ _).mono ?_; rintro e w' ⟨rfl, rfl⟩)
  refine (same_any A (some ⟨w2.heap.size, 0, none⟩) c 3 [⟨#[97]⟩, ⟨#[98]⟩, ⟨#[99]⟩] [⟨#[97]⟩, ⟨#[98]⟩, ⟨#[99]⟩] _ (hrd.below (((Below.refl _ _).alloc (Nat.le_refl _) _)) (Nat.le_refl _)) (rd_new w2 #[.string ⟨#[97]⟩, .string ⟨#[98]⟩, .string ⟨#[99]⟩] 9 _ rfl) (by decide)).mono ?_
  rintro e w3 ⟨rfl, n, rfl⟩
  rw [decide_eq_true rfl]
  go_wp2
  go_ret
  exact ⟨rfl, (hb2.alloc hs2 _).drewN' _⟩
end Go.Proofs.Ytgicbpoicejmbaa
