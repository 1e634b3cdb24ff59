/- The chapter's record, its small table. Conditions: short texts, small numbers; Go's two tables of utf8. The chapter's small table; what is put to it. Conditions: Go's two tables of utf8. The chapter's small table: what the code makes. Conditions: Go's two tables of utf8. -/
import Derived.Test.YtcgioepbooafcaaGreatDoorMRef
namespace Go.Proofs.YtcgioepbooafcaaGreatDoor
section
open Go.RowKit
def numL (n : Int) : List Cel := if n < 0 then [⟨0, ⟨#[]⟩, ⟨#[]⟩, 0, 0⟩] else [⟨2, ⟨#[]⟩, ⟨#[]⟩, n, 0⟩]
def recL (id : ByteArray) (n : Int) : List (List Cel) := [[⟨3, ⟨#[]⟩, id, 0, 0⟩], numL n]
def recN : List ByteArray := [⟨#[105, 100]⟩, ⟨#[110]⟩]
def lawR (id : ByteArray) (n : Int) : RecC := ⟨id, itemsR 7 (nmL recN) (recL id n)⟩
theorem numL_len (n : Int) : (numL n).length = 1 := by unfold numL; split <;> rfl
theorem numL_wf {n : Int} (h0 : -1000 ≤ n) (h1 : n ≤ 1000) : ∀ c ∈ numL n, CelW maxLen c := by
  intro c hc
  unfold numL at hc
  have e : (⟨#[]⟩ : ByteArray).size = 0 := rfl
  unfold maxLen
  split at hc <;> simp only [List.mem_singleton] at hc <;> subst hc <;> refine ⟨?_, ?_, ?_, ?_, ?_, ?_, ?_⟩ <;> (try simp only [e]) <;> omega
def MemW (W : World) (id : ByteArray) (g gl : Nat) : World :=
  ((W.alloc (.cells #[.string ⟨#[105, 100]⟩, .string ⟨#[110]⟩] 9)).alloc (.cells #[.int .u8 3, .string ⟨#[]⟩, .string id, .int .i64 0, .int .i64 0] 47)).alloc (.cells #[.slice (some ⟨g + 1, 0, none⟩) 1 1, .slice (some ⟨gl, 0, none⟩) 1 1] 26)
end
section
open Go.RowKit
def rA (n : Int) : RecC := lawR ⟨#[97]⟩ n
def rB (n : Int) : RecC := lawR ⟨#[98]⟩ n
def rC (n : Int) : RecC := lawR ⟨#[99]⟩ n
def smallT : TabC := ⟨⟨#[84]⟩, 2, [⟨#[110]⟩], [rA 1]⟩
def twoT : TabC := ⟨⟨#[84]⟩, 2, [⟨#[110]⟩], [rA 1, rB 2]⟩
theorem put_b2 : putT smallT (rB 2) = (twoT, 0) := by kernel_rfl
theorem put_c3 : putT twoT (rC 3) = (zeroT, 272) := by kernel_rfl
theorem get_b2 : getT twoT ⟨#[98]⟩ = some (rB 2) := by kernel_rfl
theorem put_a5 : putT smallT (rA 5) = (zeroT, 271) := by kernel_rfl
theorem put_b1 : putT smallT (rB 1) = (zeroT, 271) := by kernel_rfl
def small3 : TabC := ⟨⟨#[84]⟩, 3, [⟨#[110]⟩], [rA 1]⟩
def small4 : TabC := ⟨⟨#[84]⟩, 3, [⟨#[110]⟩], [rA 1, rB (-1)]⟩
def small5 : TabC := ⟨⟨#[84]⟩, 3, [⟨#[110]⟩], [rA 1, rB (-1), rC (-1)]⟩
theorem put_b0 : putT small3 (rB (-1)) = (small4, 0) := by kernel_rfl
theorem put_c0 : putT small4 (rC (-1)) = (small5, 0) := by kernel_rfl
theorem set_a3 : setT smallT (rA 3) = (⟨⟨#[84]⟩, 2, [⟨#[110]⟩], [rA 3]⟩, 0) := by kernel_rfl
theorem set_b3 : setT smallT (rB 3) = (zeroT, 270) := by kernel_rfl
theorem drop_b : dropT smallT ⟨#[98]⟩ = (zeroT, 270) := by kernel_rfl
theorem put_z : putT smallT ⟨⟨#[122]⟩, (lawR ⟨#[121]⟩ 1).data⟩ = (zeroT, 8) := by kernel_rfl
theorem data_eq : (rA 1).data = [⟨7, ⟨#[]⟩, ⟨#[]⟩, 0, 2⟩, ⟨3, ⟨#[105, 100]⟩, ⟨#[97]⟩, 0, 0⟩, ⟨2, ⟨#[110]⟩, ⟨#[]⟩, 1, 0⟩] := by kernel_rfl
end
section
open Go.RowKit
def smallB (c : Cel) : Bool := decide (c.kind ≤ 255) && decide (c.name.size ≤ 300) && decide (c.text.size ≤ 3000) && decide (-1000000000 ≤ c.num) && decide (c.num ≤ 1000000000) && decide (-1000000000 ≤ c.many) && decide (c.many ≤ 1000000000)
theorem wf_of_small {xs : List Cel} (h : xs.all smallB = true) : ∀ c ∈ xs, CelW maxLen c := by
  intro c hc
  have := List.all_eq_true.1 h c hc
  unfold smallB at this
  simp only [Bool.and_eq_true, decide_eq_true_eq] at this
  unfold maxLen
  exact ⟨this.1.1.1.1.1.1, by omega, by omega, by omega, by omega, by omega, by omega⟩
def smallR (r : RecC) : Bool := decide (r.id.size ≤ 300) && decide (r.data.length ≤ 1000) && r.data.all smallB
theorem recW_small {r : RecC} (h : smallR r = true) : RecW r := by
  unfold smallR at h
  simp only [Bool.and_eq_true, decide_eq_true_eq] at h
  exact ⟨by unfold maxLen; omega, by omega, wf_of_small h.2⟩
theorem tabW_small {t : TabC} (h : (t.rows.all smallR && decide (t.us.length ≤ 900) && decide (t.rows.length ≤ 900) && t.us.all (fun s => decide (s.size ≤ 300))) = true) : TabW t := by
  simp only [Bool.and_eq_true, decide_eq_true_eq, List.all_eq_true] at h
  obtain ⟨⟨⟨h1, h2⟩, h3⟩, h4⟩ := h
  exact ⟨fun r hr => recW_small (h1 r hr), h2, h3, fun s hs => by have := h4 s hs; unfold maxLen; omega⟩
theorem small_W : TabW smallT := tabW_small (by kernel_rfl)
theorem two_W : TabW twoT := tabW_small (by kernel_rfl)
theorem rec_len : (rA 1).data.length = 3 := by kernel_rfl
end
end Go.Proofs.YtcgioepbooafcaaGreatDoor
