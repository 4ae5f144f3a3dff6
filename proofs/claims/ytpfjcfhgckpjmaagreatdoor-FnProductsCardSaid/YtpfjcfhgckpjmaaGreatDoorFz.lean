/- Plain laws: tests of a finite single and of its double tell the same. No program in sight. -/
import Derived.Test.YtpfjcfhgckpjmaaGreatDoorFy
namespace Go.Fl
open Ieee

theorem Is.trans' {k : FloatKind} {b : Nat} {v u : Option Nat} (h : Is k b v) (e : v = u) : Is k b u := e ▸ h

theorem lss_wide {b : Nat} (hf : single.rungOf b < single.infRung) : cmpV .lss .f64 (some (wideN b)) (some 0) = cmpV .lss .f32 (some b) (some 0) := by
  obtain ⟨-, h2, h3, -⟩ := wide_signs (nan_of_fin .f32 hf)
  rw [lssV0, lssV0]
  have e1 : FloatKind.f64.format.isNeg (wideN b) = FloatKind.f32.format.isNeg b := h2
  have e2 : decide (FloatKind.f64.format.rungOf (wideN b) ≠ 0) = decide (FloatKind.f32.format.rungOf b ≠ 0) := by
    rw [decide_eq_decide]; exact not_congr h3
  rw [e1, e2]
theorem eql_wide {b : Nat} (hf : single.rungOf b < single.infRung) : cmpV .eql .f64 (some (wideN b)) (some 0) = cmpV .eql .f32 (some b) (some 0) := by
  obtain ⟨-, h2, h3, -⟩ := wide_signs (nan_of_fin .f32 hf)
  rw [eqlV0, eqlV0, decide_eq_decide]
  exact h3
end Go.Fl
