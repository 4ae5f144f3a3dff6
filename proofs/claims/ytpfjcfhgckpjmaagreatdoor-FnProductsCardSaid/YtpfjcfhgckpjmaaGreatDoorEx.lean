/- Plain laws: the exponential function of a double's bits. No program in sight. -/
import Derived.Test.YtpfjcfhgckpjmaaGreatDoorKf
set_option exponentiation.threshold 3000
namespace Go.Fl
open Ieee

abbrev c256 : Nat := 4643211215818981376
def expI (t : Option Nat) : Nat → Option Nat
  | 0 => some c1
  | i + 1 => fop .add .f64 (some c1) (fop .quo .f64 (fop .mul .f64 t (expI t i)) (some (kb (12 - i))))
def sqI (p : Option Nat) : Nat → Option Nat
  | 0 => p
  | j + 1 => fop .mul .f64 (sqI p j) (sqI p j)
def expF (x : Nat) : Option Nat := sqI (expI (fop .quo .f64 (some x) (some c256)) 12) 8

theorem kb12_geV : ∀ j : Nat, j < 13 → cmpV .geq .f64 (some (kb j)) (some c1) = decide (1 ≤ j) := by decide +kernel
theorem kb12_downV : ∀ j : Nat, j < 13 → 1 ≤ j → fop .sub .f64 (some (kb j)) (some c1) = some (kb (j - 1)) := by decide +kernel
theorem kb_12 : kb 12 = 4622945017495814144 := by decide +kernel

def gapV (u v : Option Nat) : Option Nat := if cmpV .lss .f64 u v then fop .sub .f64 v u else fop .sub .f64 u v

/-- Eighths from -8 on, as singles. -/
def sV (k : Nat) : Option Nat := fop .quo .f32 (some (floatOfInt .f32 ((k : Int) - 64))) (some 1090519040)
end Go.Fl
