/- Plain laws: the angle of a point as a function of two doubles' bits. No program in sight. -/
import Derived.Test.YtpfjcfhgckpjmaaGreatDoorLg
set_option exponentiation.threshold 3000
namespace Go.Fl
open Ieee

abbrev c8 : Nat := 4620693217682128896
def absB (b : Nat) : Nat := b % 9223372036854775808

def stepT (t : Option Nat) : Option Nat := fop .quo .f64 t (fop .add .f64 (some c1) (fsqrt (fop .add .f64 (some c1) (fop .mul .f64 t t))))
def tI (t0 : Option Nat) : Nat → Option Nat
  | 0 => t0
  | i + 1 => stepT (tI t0 i)
def ang0 (t : Option Nat) : Option Nat := fop .quo .f64 (fop .mul .f64 (some c8) (fop .mul .f64 t (srI .sub 15 (fop .mul .f64 t t) 8))) (some tau)
def overB (y x : Nat) : Bool := cmpV .gtr .f64 (some (absB y)) (some (absB x))
def t0V (y x : Nat) : Option Nat := if overB y x then fop .quo .f64 (some (absB x)) (some (absB y)) else fop .quo .f64 (some (absB y)) (some (absB x))
def turn1 (o : Bool) (a : Option Nat) : Option Nat := if o then fop .sub .f64 (some quarter) a else a
def turn2 (o : Bool) (a : Option Nat) : Option Nat := if o then fop .sub .f64 (some half) a else a
def turn3 (o : Bool) (a : Option Nat) : Option Nat := if o then fneg a else a
def angF (y x : Nat) : Option Nat :=
  turn3 (cmpV .lss .f64 (some y) (some c0)) (turn2 (cmpV .lss .f64 (some x) (some c0)) (turn1 (overB y x) (ang0 (tI (t0V y x) 3))))

theorem num_fsqrt {v : Option Nat} : Num (fsqrt v) := by
  cases v with
  | none => intro b h; cases h
  | some x => intro b hb; exact (sqrt_is (show double.sqrt x = some b from hb)).some.2

theorem bd_stepT {t : Option Nat} (h : Bd 1074 t) : Bd 1074 (stepT t) :=
  bd_div_ge1 h (ge1_one_add rfl num_fsqrt (nonneg_sqrt _)) num_fop (by omega)

theorem bd_tI {t0 : Option Nat} (h : Bd 1074 t0) : ∀ i, Bd 1074 (tI t0 i)
  | 0 => h
  | i + 1 => bd_stepT (bd_tI h i)

theorem bd_ang0 {t : Option Nat} (h : Bd 1074 t) : Bd 1085 (ang0 t) := by
  unfold ang0
  have hu : Bd 1074 (fop .mul .f64 t t) := bd_mul h h (by omega) (by omega) (by omega) (by omega)
  have hp := bd_srI (op := .sub) (.inr rfl) (K := 15) (by omega) hu 8 (by omega)
  have h1 : Bd 1082 (fop .mul .f64 t (srI .sub 15 (fop .mul .f64 t t) 8)) := bd_mul h hp (by omega) (by omega) (by omega) (by omega)
  have h2 : Bd 1085 (fop .mul .f64 (some c8) (fop .mul .f64 t (srI .sub 15 (fop .mul .f64 t t) 8))) := bd_mul (A := 1077) (bd_const (by decide +kernel)) h1 (by omega) (by omega) (by omega) (by omega)
  exact bd_div_ge1 h2 (ge1_const (by decide +kernel)) (num_const (by decide +kernel)) (by omega)

theorem overB_iff (y x : Nat) : overB y x = decide (absB x < absB y) := by
  unfold overB cmpV
  have h1 : absB y < 9223372036854775808 := Nat.mod_lt _ (by decide)
  have h2 : absB x < 9223372036854775808 := Nat.mod_lt _ (by decide)
  rw [cmp_self h1 h2]
  rcases Nat.lt_trichotomy (absB y) (absB x) with h | h | h
  · rw [(Nat.compare_eq_lt).2 h, decide_eq_false (by omega)]; rfl
  · rw [h]; simp
  · rw [(Nat.compare_eq_gt).2 h, decide_eq_true (by omega)]; rfl

theorem bd_quo_le {a b : Nat} (hb : b < 9218868437227405312) (h : a ≤ b) : Bd 1074 (fop .quo .f64 (some a) (some b)) := by
  have h1 : double.rungOf a = a := rung_self (by omega)
  have h2 : double.rungOf b = b := rung_self (by omega)
  refine quo_le (by omega) (by rw [h1, inf_dbl]; omega) (by rw [h2, inf_dbl]; omega) ?_
  rw [h1, h2, Nat.mul_comm]
  exact Nat.mul_le_mul_left _ ((double.units_le_iff).2 h)

theorem bd_t0V {y x : Nat} (hy : double.rungOf y < double.infRung) (hx : double.rungOf x < double.infRung) : Bd 1074 (t0V y x) := by
  rw [inf_dbl] at hy hx
  have e1 : double.rungOf y = absB y := rfl
  have e2 : double.rungOf x = absB x := rfl
  unfold t0V
  rw [overB_iff]
  by_cases h : absB x < absB y
  · rw [decide_eq_true h, if_pos rfl]; exact bd_quo_le (by omega) (by omega)
  · rw [decide_eq_false h, if_neg (by decide)]; exact bd_quo_le (by omega) (by omega)

theorem lt_ang {t : Option Nat} {b : Nat} (h : ang0 t = some b) : b < 18446744073709551616 := lt_of_fop h

theorem bd_angF {y x : Nat} (hy : double.rungOf y < double.infRung) (hx : double.rungOf x < double.infRung) : Bd 1100 (angF y x) := by
  unfold angF
  have h0 := bd_ang0 (bd_tI (bd_t0V hy hx) 3)
  obtain ⟨a, ha⟩ : ∃ a, a = ang0 (tI (t0V y x) 3) := ⟨_, rfl⟩
  have hl : ∀ b, a = some b → b < 18446744073709551616 := fun b hb => by rw [ha] at hb; exact lt_ang hb
  rw [← ha] at h0 ⊢
  clear ha
  obtain ⟨a1, ha1⟩ : ∃ a1, a1 = turn1 (overB y x) a := ⟨_, rfl⟩
  have h1 : Bd 1086 a1 ∧ ∀ b, a1 = some b → b < 18446744073709551616 := by
    rw [ha1]; unfold turn1; split
    · exact ⟨bd_sub (bd_const (by decide +kernel)) h0 (by omega), fun b hb => lt_of_fop hb⟩
    · exact ⟨h0.mono (by omega), hl⟩
  rw [← ha1]
  clear ha1 h0 hl
  obtain ⟨a2, ha2⟩ : ∃ a2, a2 = turn2 (cmpV .lss .f64 (some x) (some c0)) a1 := ⟨_, rfl⟩
  have h2 : Bd 1087 a2 ∧ ∀ b, a2 = some b → b < 18446744073709551616 := by
    rw [ha2]; unfold turn2; split
    · exact ⟨bd_sub (bd_half.mono (by omega)) h1.1 (by omega), fun b hb => lt_of_fop hb⟩
    · exact ⟨h1.1.mono (by omega), h1.2⟩
  rw [← ha2]
  unfold turn3
  split
  · exact (bd_neg h2.1 h2.2).mono (by omega)
  · exact h2.1.mono (by omega)
end Go.Fl
