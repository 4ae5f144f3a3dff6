/- Plain laws: the sine of turns of a single; its bounds. No program in sight. -/
import Derived.Test.YtpfjcfhgckpjmaaGreatDoorFw
set_option exponentiation.threshold 3000
namespace Go.Fl
open Ieee

/-- The double of a finite single. -/
def wideN (b : Nat) : Nat := double.write (single.read b)
theorem wideN_fin {b : Nat} (h : single.rungOf b < single.infRung) : widen (val .f32 b) = some (wideN b) ∧ double.rungOf (wideN b) < double.infRung ∧ wideN b < 18446744073709551616 ∧
    double.isNeg (wideN b) = single.isNeg b ∧ double.units (double.rungOf (wideN b)) = single.units (single.rungOf b) * 2 ^ 925 := by
  have hn : single.nan b = false := nan_of_fin .f32 h
  obtain ⟨rd, h1, h2, h3⟩ := widen_word h
  have hlt := double.infRung_lt
  have hw : wideN b = double.word (single.isNeg b) rd := h3
  rw [val_num (k := .f32) hn]
  refine ⟨rfl, ?_, ?_, ?_, ?_⟩
  · rw [hw, double.rungOf_word _ (by omega)]; exact h1
  · rw [hw]; rw [inf_dbl] at h1; exact word_lt (by omega)
  · rw [hw, double.isNeg_word _ (by omega)]
  · rw [hw, double.rungOf_word _ (by omega), h2]

/-- The sine of turns of a single, as a single. -/
def sineS (b : Nat) : Option Nat := if single.rungOf b < single.infRung then (if bigB (wideN b) then some 0 else narrow (sineF (fracV (wideN b)))) else none

theorem sineF_ok {x : Nat} (h : bigB x = false) : NarrowOk (sineF (fracV x)) := narrowOk_of_bd (bd_sineF (bd_fracV (not_big h))) (by omega)
theorem zero_ok : NarrowOk (some 0) := narrow_const (.inl (by decide +kernel))
theorem narrow_zero : narrow (some 0) = some 0 := by decide +kernel
theorem Is.zero32 : Is .f32 0 (.some 0) := Is.const32 (by decide +kernel)
theorem Is.zero64 : Is .f64 0 (.some 0) := Is.const64 (by decide +kernel)
end Go.Fl
