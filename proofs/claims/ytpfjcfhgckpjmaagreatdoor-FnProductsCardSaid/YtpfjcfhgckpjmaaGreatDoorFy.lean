/- Plain laws: the logarithm of a single, its cases. No program in sight. -/
import Derived.Test.YtpfjcfhgckpjmaaGreatDoorFx
set_option exponentiation.threshold 3000
namespace Go.Fl
open Ieee

/-- The logarithm of a single, as a single. -/
def logS (b : Nat) : Option Nat :=
  if single.nan b then none else if single.rungOf b = 0 then some 4286578688 else if single.isNeg b then none
  else if single.rungOf b < single.infRung then narrow (logF (wideN b)) else some b

theorem pos_wide {b : Nat} (hs : single.isNeg b = false) (h0 : ¬ single.rungOf b = 0) (h1 : single.rungOf b < single.infRung) :
    874 * 4503599627370496 ≤ wideN b ∧ wideN b < 1151 * 4503599627370496 := by
  obtain ⟨r, hr, h2, h3, -⟩ := widen_pos hs (Nat.pos_of_ne_zero h0) h1
  have : wideN b = r := by
    have h : widen (some b) = some (wideN b) := rfl
    rw [h] at hr
    exact Option.some.inj hr
  rw [this]; exact ⟨h2, h3⟩

theorem eqlV_self {a b : Nat} (ha : a < 9223372036854775808) (hb : b < 9223372036854775808) : cmpV .eql .f64 (some a) (some b) = decide (a = b) := by
  unfold cmpV
  rw [cmp_self ha hb]
  rcases Nat.lt_trichotomy a b with h | h | h
  · rw [(Nat.compare_eq_lt).2 h, decide_eq_false (by omega)]; rfl
  · rw [h]; simp
  · rw [(Nat.compare_eq_gt).2 h, decide_eq_false (by omega)]; rfl
theorem neqV_self (k : FloatKind) (b : Nat) : cmpV .neq k (some b) (some b) = false := by
  unfold cmpV; rw [cmpS]; rfl
theorem neqV_none (k : FloatKind) : cmpV .neq k none none = true := rfl

theorem logF_ok {r : Nat} (h0 : 874 * 4503599627370496 ≤ r) (h1 : r < 1151 * 4503599627370496) : NarrowOk (logF r) := narrowOk_of_bd (bd_logF h0 h1) (by omega)

theorem lssV0 (k : FloatKind) (b : Nat) : cmpV .lss k (some b) (some 0) = (decide (k.format.rungOf b ≠ 0) && k.format.isNeg b) := by
  unfold cmpV
  rw [cmp0]
  by_cases hr : k.format.rungOf b = 0
  · rw [if_pos hr]; simp [hr]
  · rw [if_neg hr]
    cases k.format.isNeg b <;> simp [hr]
theorem eqlV0 (k : FloatKind) (b : Nat) : cmpV .eql k (some b) (some 0) = decide (k.format.rungOf b = 0) := by
  unfold cmpV
  rw [cmp0]
  by_cases hr : k.format.rungOf b = 0
  · rw [if_pos hr]; simp [hr]
  · rw [if_neg hr]
    cases k.format.isNeg b <;> simp [hr]
theorem cmpV_none_l (op : BinOp) (k : FloatKind) (v : Option Nat) (h : op = .eql ∨ op = .lss ∨ op = .gtr ∨ op = .leq ∨ op = .geq) : cmpV op k none v = false := by
  rcases h with rfl | rfl | rfl | rfl | rfl <;> cases v <;> rfl

/-- A single that is no NaN, as a double: its sign, and whether it is zero. -/
theorem wide_signs {b : Nat} (hn : single.nan b = false) : widen (val .f32 b) = some (wideN b) ∧ double.isNeg (wideN b) = single.isNeg b ∧ (double.rungOf (wideN b) = 0 ↔ single.rungOf b = 0) ∧
    double.nan (wideN b) = false ∧ wideN b < 18446744073709551616 ∧ (single.rungOf b = single.infRung → double.rungOf (wideN b) = double.infRung) := by
  by_cases hf : single.rungOf b < single.infRung
  · obtain ⟨h1, h2, h3, h4, h5⟩ := wideN_fin hf
    refine ⟨h1, h4, ?_, nan_of_fin .f64 h2, h3, fun h => by omega⟩
    constructor
    · intro h
      rw [h, double.units_zero] at h5
      have hu : single.units (single.rungOf b) = 0 := by
        rcases Nat.mul_eq_zero.1 h5.symm with h6 | h6
        · exact h6
        · have := Nat.two_pow_pos 925; omega
      exact single.units_inj (by rw [hu, single.units_zero])
    · intro h
      rw [h, single.units_zero, Nat.zero_mul] at h5
      exact double.units_inj (by rw [h5, double.units_zero])
  · have hi : single.rungOf b = single.infRung := by
      rw [single.nan_iff (by decide)] at hn
      have : single.rungOf b ≤ single.infRung := by simpa using hn
      omega
    have hlt := double.infRung_lt
    have hw : wideN b = double.word (single.isNeg b) double.infRung := by
      unfold wideN
      rw [single.read_inf (by decide) hi]; rfl
    refine ⟨by rw [val_num (k := .f32) hn]; rfl, ?_, ?_, ?_, ?_, fun _ => ?_⟩
    · rw [hw, double.isNeg_word _ hlt]
    · rw [hw, double.rungOf_word _ hlt, hi]
      have a1 : double.infRung ≠ 0 := by decide
      have a2 : single.infRung ≠ 0 := by decide
      simp [a1, a2]
    · rw [hw, double.nan_iff (by decide), double.rungOf_word _ hlt]; simp
    · rw [hw]; rw [inf_dbl]; exact word_lt (by decide)
    · rw [hw, double.rungOf_word _ hlt]
end Go.Fl
