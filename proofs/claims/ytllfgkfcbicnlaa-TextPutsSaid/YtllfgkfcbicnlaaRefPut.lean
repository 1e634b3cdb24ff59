/- provostref01.Put: the text of code points, or what is wrong. Conditions: at most 17,000 of them. -/
import Derived.Test.YtllfgkfcbicnlaaRefText
namespace Go.Proofs.Ytllfgkfcbicnlaa
open Go.RowKit Go.ChangeShapes Go.WideShapes Go.ChangeAt
def putOf (xs : List Int) : ByteArray × Int :=
  if 16384 < xs.length then (⟨#[]⟩, 4) else if xs.all isPoint then (strOfNums (encZ xs), 0) else (⟨#[]⟩, 10)
theorem refput_any (A : Option Addr) (c : Nat) (xs : List Int) (w : World) {B : Nat} (hx : Rd w B A (iv xs)) (hB : B ≤ w.heap.size) (hn : xs.length ≤ 17000) :
    Calls Try.prog 5 #[.slice A xs.length c] w fun e w' => e = .returned (.tuple #[.string (putOf xs).1, .int .i64 (putOf xs).2]) ∧ Below w.heap.size w w' := by
  go_enter Try.func5, Try.ntmps5
  by_cases h : (16384 : Int) < xs.length
  · go_wp2
    have h' : 16384 < xs.length := by omega
    refine bodyPost_ret (v := .tuple #[.string (putOf xs).1, .int .i64 (putOf xs).2]) (by simp [results, Try.results5, go_sem, putOf, h']) rfl ⟨rfl, Below.refl _ _⟩
  · have h' : ¬ 16384 < xs.length := by omega
    go_wp2
    go_loopw [4] (fun i wr => ∃ k : Nat, k ≤ xs.length ∧ i = .int .i64 k ∧ (∀ x ∈ xs.take k, isPoint x = true) ∧ wr = w) (fun i _ => xs.length - (intOf i).toNat)
    case atStart => exact ⟨0, Nat.zero_le _, rfl, by simp, rfl⟩
    case round =>
      obtain ⟨k, hk, rfl, hp, rfl⟩ := hrel
      by_cases hlt : k < xs.length
      · obtain ⟨b, off, rfl, hcell⟩ : ∃ b off, A = some ⟨b, off, none⟩ ∧ wr.cell? ⟨b, off + k, none⟩ = some (.int .i64 xs[k]) := by
          rcases hx with h | ⟨b, off, e, _, h⟩
          · simp [iv] at h
            subst h
            simp at hlt
          · exact ⟨b, off, e, by simpa [iv] using h k (by simpa [iv] using hlt)⟩
        go_wp2_with fail
        refine (is_any xs[k] wr).mono ?_
        rintro e w1 ⟨rfl, rfl⟩
        go_wp2
        · have hbad : isPoint xs[k] = false := by simp_all
          have hall : xs.all isPoint = false := List.all_eq_false.2 ⟨_, List.getElem_mem hlt, by simp [hbad]⟩
          refine bodyPost_ret (v := .tuple #[.string (putOf xs).1, .int .i64 (putOf xs).2]) (by simp [results, Try.results5, go_sem, putOf, h', hall]) rfl ⟨rfl, Below.refl _ _⟩
        · have hgood : isPoint xs[k] = true := by simp_all
          refine ⟨⟨k + 1, hlt, by go_num, ?_, trivial⟩, by simp [intOf]; omega⟩
          intro x hx'
          rw [List.take_add_one, List.getElem?_eq_getElem hlt, List.mem_append] at hx'
          rcases hx' with h1 | h1
          · exact hp x h1
          · simp at h1
            rw [h1]
            exact hgood
      · obtain rfl : k = xs.length := by omega
        go_wp2_with fail
        rw [List.take_length] at hp
        refine (text_any A c xs wr hx hB hp hn).mono ?_
        rintro e w1 ⟨rfl, hb1⟩
        have hall : xs.all isPoint = true := List.all_eq_true.2 hp
        go_wp2
        refine bodyPost_ret (v := .tuple #[.string (putOf xs).1, .int .i64 (putOf xs).2]) (by simp [results, Try.results5, go_sem, putOf, h', hall]) rfl ⟨rfl, hb1⟩
end Go.Proofs.Ytllfgkfcbicnlaa
