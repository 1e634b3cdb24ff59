/- KindWraps' plain laws: a wrapper on both changes nothing. Conditions: none. -/
import Derived.Test.YtgoecnhkmfnenaaSame
namespace Go.Proofs.Ytgoecnhkmfnenaa
theorem fits_two (na nb : ByteArray) (fa tb : List UInt8) : fits na nb (2 :: fa) (2 :: tb) = fits na nb fa tb := by
  simp [fits]
theorem fits_one (na nb : ByteArray) (fa tb : List UInt8) : fits na nb (1 :: fa) (1 :: tb) = fits na nb fa tb := by
  simp [fits]
theorem fits_more (na : ByteArray) : ∀ fa : List UInt8, fits na na fa fa = true → fits na na (1 :: fa) fa = true
  | [], _ => by simp [fits]
  | a :: r, h => by
    by_cases ha : a = 1
    · subst ha
      rw [fits_one] at h
      have ih := fits_more na r h
      rw [fits]
      simpa using ih
    · rw [fits, if_neg (by simpa using ha)]
      simpa using h
theorem bare_two (ws : List UInt8) : bare (2 :: ws) = 2 :: ws := by simp [bare]
theorem bare_one (ws : List UInt8) : bare (1 :: ws) = ws := by simp [bare]
end Go.Proofs.Ytgoecnhkmfnenaa
