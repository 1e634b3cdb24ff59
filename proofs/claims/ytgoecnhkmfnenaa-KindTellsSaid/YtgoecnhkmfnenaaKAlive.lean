/- The chapter's first examples hold: 'alive' gives true, and nothing that was there has changed; the contract of kind.Usable. Conditions: lengths within the model's. -/
import Derived.Test.YtgoecnhkmfnenaaBare
namespace Go.Proofs.Ytgoecnhkmfnenaa
open Go.RowKit

def int3 : ByteArray := ⟨#[73, 110, 116]⟩
set_option maxHeartbeats 1000000 in
theorem ref_any (v : Value) (A : Option Addr) (n c : Nat) (w : World) (hv : v = .slice A n c) :
    Calls Try.prog 16 #[v] w fun e w' => e = .returned (rf int3 A n c) ∧ Below w.heap.size w w' := by
  subst hv
  go_enter Try.func16, Try.ntmps16
  go_wp2
  refine bodyPost_ret (v := rf int3 A n c) (by simp [results, Try.results16, go_sem, rf, int3]) rfl ⟨rfl, ?_⟩
  repeat (first | exact Below.refl _ _ | refine Below.alloc ?_ (by first | omega | (simp; omega)) _ | refine Below.setCell ?_ (by simp) _)


theorem fits_call {na nb : ByteArray} {A A2 : Option Addr} {n m c c2 : Nat} {w : World} {B : Nat} (fa tb : List UInt8) (b : Bool) (hn : fa.length = n) (hm : tb.length = m) (hx : Rd w B A (bv fa)) (hy : Rd w B A2 (bv tb)) (hB : B ≤ w.heap.size) (hc : n ≤ c) (hcm : c ≤ maxLen) (hc2 : m ≤ c2) (hcm2 : c2 ≤ maxLen) (hf : fits na nb fa tb = b) :
    Calls Try.prog 9 #[rf na A n c, rf nb A2 m c2] w fun e w' => e = .returned (.bool b) ∧ Below w.heap.size w w' := by
  subst hn hm hf
  exact fits_any na nb fa tb A A2 c c2 w B hx hy hB hc hcm hc2 hcm2
theorem le1 : (1 : Nat) ≤ maxLen := by unfold maxLen; omega
theorem le3 : (3 : Nat) ≤ maxLen := by unfold maxLen; omega
theorem le0 : (0 : Nat) ≤ maxLen := by unfold maxLen; omega
theorem rd_up {w w' : World} {B B' : Nat} {A : Option Addr} {xs : List Value} (h : Rd w B A xs) (hb : Below w.heap.size w w') (hB : B ≤ w.heap.size) (hB' : w.heap.size ≤ B') : Rd w' B' A xs := (h.thru hb hB).mono (by omega)
/-- a new slice of bytes, read after a call -/
theorem rd_lit {w w1 : World} {arr : Array Value} {L : List Value} (h : arr.toList = L) (hb : Below (w.alloc (.cells arr 5)).heap.size (w.alloc (.cells arr 5)) w1) :
    Rd w1 w1.heap.size (some ⟨w.heap.size, 0, none⟩) L ∧ Below w.heap.size w w1 := by
  have hs := hb.size
  simp at hs
  exact ⟨((rd_new w arr 5 L h).thru hb (by simp)).mono hs, ((Below.refl _ _).alloc (Nat.le_refl _) _).trans (hb.mono (by simp))⟩

set_option maxHeartbeats 4000000 in
set_option maxRecDepth 100000 in
theorem alive_any (w : World) : Calls Try.prog 8 #[] w fun e w' => e = .returned (.bool true) ∧ Below w.heap.size w w' := by
  go_enter Try.func8, Try.ntmps8
  go_wp2_with fail
  refine (ref_any _ (some ⟨w.heap.size, 0, none⟩) 1 1 _ rfl).mono ?_
  rintro e w1 ⟨rfl, hc1⟩
  obtain ⟨r1, b1⟩ := rd_lit (arr := #[.int .u8 1]) (L := bv [1]) rfl hc1
  have s1 := b1.size
  have h1 := b1
  go_wp2_with fail
  refine (ref_any _ none 0 0 _ rfl).mono ?_
  rintro e w2 ⟨rfl, hc2⟩
  have r2 : Rd w2 w2.heap.size none (bv []) := Rd.nil
  have b2 : Below w1.heap.size w1 w2 := hc2
  have s2 := b2.size
  have h2 := h1.trans (b2.mono h1.size)
  have q1 := rd_up r1 b2 (Nat.le_refl _) s2
  go_wp2_with fail
  refine (fits_call (B := w2.heap.size) [1] [] true rfl rfl q1 r2 (Nat.le_refl _) (Nat.le_refl _) (by first | exact le0 | exact le1 | exact le3) (Nat.le_refl _) (by first | exact le0 | exact le1 | exact le3) (by decide)).mono ?_
  rintro e w3 ⟨rfl, b3⟩
  have s3 := b3.size
  have h3 := h2.trans (b3.mono h2.size)
  clear q1 r1 r2 hc1 hc2 b1 b2 b3 h1 h2
  go_wp2_with fail
  refine (ref_any _ none 0 0 _ rfl).mono ?_
  rintro e w4 ⟨rfl, hc4⟩
  have r4 : Rd w4 w4.heap.size none (bv []) := Rd.nil
  have b4 : Below w3.heap.size w3 w4 := hc4
  have s4 := b4.size
  have h4 := h3.trans (b4.mono h3.size)
  go_wp2_with fail
  refine (ref_any _ (some ⟨w4.heap.size, 0, none⟩) 1 1 _ rfl).mono ?_
  rintro e w5 ⟨rfl, hc5⟩
  obtain ⟨r5, b5⟩ := rd_lit (arr := #[.int .u8 1]) (L := bv [1]) rfl hc5
  have s5 := b5.size
  have h5 := h4.trans (b5.mono h4.size)
  have q4 := rd_up r4 b5 (Nat.le_refl _) s5
  go_wp2_with fail
  refine (fits_call (B := w5.heap.size) [] [1] false rfl rfl q4 r5 (Nat.le_refl _) (Nat.le_refl _) (by first | exact le0 | exact le1 | exact le3) (Nat.le_refl _) (by first | exact le0 | exact le1 | exact le3) (by decide)).mono ?_
  rintro e w6 ⟨rfl, b6⟩
  have s6 := b6.size
  have h6 := h5.trans (b6.mono h5.size)
  clear q4 r4 r5 hc4 hc5 b4 b5 b6 h4 h5
  go_wp2_with fail
  refine (ref_any _ (some ⟨w6.heap.size, 0, none⟩) 3 3 _ rfl).mono ?_
  rintro e w7 ⟨rfl, hc7⟩
  obtain ⟨r7, b7⟩ := rd_lit (arr := #[.int .u8 1, .int .u8 2, .int .u8 1]) (L := bv [1, 2, 1]) rfl hc7
  have s7 := b7.size
  have h7 := h6.trans (b7.mono h6.size)
  go_wp2_with fail
  refine (ref_any _ (some ⟨w7.heap.size, 0, none⟩) 1 1 _ rfl).mono ?_
  rintro e w8 ⟨rfl, hc8⟩
  obtain ⟨r8, b8⟩ := rd_lit (arr := #[.int .u8 2]) (L := bv [2]) rfl hc8
  have s8 := b8.size
  have h8 := h7.trans (b8.mono h7.size)
  have q7 := rd_up r7 b8 (Nat.le_refl _) s8
  go_wp2_with fail
  refine (fits_call (B := w8.heap.size) [1, 2, 1] [2] true rfl rfl q7 r8 (Nat.le_refl _) (Nat.le_refl _) (by first | exact le0 | exact le1 | exact le3) (Nat.le_refl _) (by first | exact le0 | exact le1 | exact le3) (by decide)).mono ?_
  rintro e w9 ⟨rfl, b9⟩
  have s9 := b9.size
  have h9 := h8.trans (b9.mono h8.size)
  clear q7 r7 r8 hc7 hc8 b7 b8 b9 h7 h8
  go_wp2_with fail
  refine (ref_any _ none 0 0 _ rfl).mono ?_
  rintro e w10 ⟨rfl, hc10⟩
  have r10 : Rd w10 w10.heap.size none (bv []) := Rd.nil
  have b10 : Below w9.heap.size w9 w10 := hc10
  have s10 := b10.size
  have h10 := h9.trans (b10.mono h9.size)
  go_wp2_with fail
  refine (ref_any _ (some ⟨w10.heap.size, 0, none⟩) 1 1 _ rfl).mono ?_
  rintro e w11 ⟨rfl, hc11⟩
  obtain ⟨r11, b11⟩ := rd_lit (arr := #[.int .u8 2]) (L := bv [2]) rfl hc11
  have s11 := b11.size
  have h11 := h10.trans (b11.mono h10.size)
  have q10 := rd_up r10 b11 (Nat.le_refl _) s11
  go_wp2_with fail
  refine (fits_call (B := w11.heap.size) [] [2] false rfl rfl q10 r11 (Nat.le_refl _) (Nat.le_refl _) (by first | exact le0 | exact le1 | exact le3) (Nat.le_refl _) (by first | exact le0 | exact le1 | exact le3) (by decide)).mono ?_
  rintro e w12 ⟨rfl, b12⟩
  have s12 := b12.size
  have h12 := h11.trans (b12.mono h11.size)
  clear q10 r10 r11 hc10 hc11 b10 b11 b12 h10 h11
  go_wp2
  go_ret
  exact ⟨rfl, h12⟩
end Go.Proofs.Ytgoecnhkmfnenaa
