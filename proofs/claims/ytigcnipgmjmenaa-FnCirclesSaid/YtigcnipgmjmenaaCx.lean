/- Products of eighths as singles. -/
import Derived.Test.YtigcnipgmjmenaaCt
set_option exponentiation.threshold 3000
set_option maxRecDepth 100000
namespace Go.Proofs.Ytigcnipgmjmenaa.Ct
open Go.Fl Go.RowKit Ieee
set_option maxHeartbeats 0 in
theorem xy_0_0 : ∀ i : Nat, i < 10 → ∀ j : Nat, j < 200 → fop .mul .f32 (some (tX (8 * (i + 0 + 1)))) (some (tX (8 * (j + 1)))) = some (tX ((i + 0 + 1) * (j + 1))) := by decide +kernel
set_option maxHeartbeats 0 in
theorem xy_0_1 : ∀ i : Nat, i < 10 → ∀ j : Nat, j < 200 → fop .mul .f32 (some (tX (8 * (i + 10 + 1)))) (some (tX (8 * (j + 1)))) = some (tX ((i + 10 + 1) * (j + 1))) := by decide +kernel
set_option maxHeartbeats 0 in
theorem xy_0_2 : ∀ i : Nat, i < 10 → ∀ j : Nat, j < 200 → fop .mul .f32 (some (tX (8 * (i + 20 + 1)))) (some (tX (8 * (j + 1)))) = some (tX ((i + 20 + 1) * (j + 1))) := by decide +kernel
set_option maxHeartbeats 0 in
theorem xy_0_3 : ∀ i : Nat, i < 10 → ∀ j : Nat, j < 200 → fop .mul .f32 (some (tX (8 * (i + 30 + 1)))) (some (tX (8 * (j + 1)))) = some (tX ((i + 30 + 1) * (j + 1))) := by decide +kernel
set_option maxHeartbeats 0 in
theorem xy_0_4 : ∀ i : Nat, i < 10 → ∀ j : Nat, j < 200 → fop .mul .f32 (some (tX (8 * (i + 40 + 1)))) (some (tX (8 * (j + 1)))) = some (tX ((i + 40 + 1) * (j + 1))) := by decide +kernel
theorem xyAll0 (i : Nat) (h0 : 0 ≤ i) (h1 : i < 50) (j : Nat) (hj : j < 200) : fop .mul .f32 (some (tX (8 * (i + 1)))) (some (tX (8 * (j + 1)))) = some (tX ((i + 1) * (j + 1))) := by
  by_cases h0 : i < 10
  · have := xy_0_0 (i - 0) (by omega) j hj; rwa [show i - 0 + 0 = i by omega] at this
  by_cases h1 : i < 20
  · have := xy_0_1 (i - 10) (by omega) j hj; rwa [show i - 10 + 10 = i by omega] at this
  by_cases h2 : i < 30
  · have := xy_0_2 (i - 20) (by omega) j hj; rwa [show i - 20 + 20 = i by omega] at this
  by_cases h3 : i < 40
  · have := xy_0_3 (i - 30) (by omega) j hj; rwa [show i - 30 + 30 = i by omega] at this
  by_cases h4 : i < 50
  · have := xy_0_4 (i - 40) (by omega) j hj; rwa [show i - 40 + 40 = i by omega] at this
  omega
end Go.Proofs.Ytigcnipgmjmenaa.Ct

namespace Go.Proofs.Ytigcnipgmjmenaa.Ct
open Go.Fl Go.RowKit Ieee
set_option maxHeartbeats 0 in
theorem xy_1_0 : ∀ i : Nat, i < 10 → ∀ j : Nat, j < 200 → fop .mul .f32 (some (tX (8 * (i + 50 + 1)))) (some (tX (8 * (j + 1)))) = some (tX ((i + 50 + 1) * (j + 1))) := by decide +kernel
set_option maxHeartbeats 0 in
theorem xy_1_1 : ∀ i : Nat, i < 10 → ∀ j : Nat, j < 200 → fop .mul .f32 (some (tX (8 * (i + 60 + 1)))) (some (tX (8 * (j + 1)))) = some (tX ((i + 60 + 1) * (j + 1))) := by decide +kernel
set_option maxHeartbeats 0 in
theorem xy_1_2 : ∀ i : Nat, i < 10 → ∀ j : Nat, j < 200 → fop .mul .f32 (some (tX (8 * (i + 70 + 1)))) (some (tX (8 * (j + 1)))) = some (tX ((i + 70 + 1) * (j + 1))) := by decide +kernel
set_option maxHeartbeats 0 in
theorem xy_1_3 : ∀ i : Nat, i < 10 → ∀ j : Nat, j < 200 → fop .mul .f32 (some (tX (8 * (i + 80 + 1)))) (some (tX (8 * (j + 1)))) = some (tX ((i + 80 + 1) * (j + 1))) := by decide +kernel
set_option maxHeartbeats 0 in
theorem xy_1_4 : ∀ i : Nat, i < 10 → ∀ j : Nat, j < 200 → fop .mul .f32 (some (tX (8 * (i + 90 + 1)))) (some (tX (8 * (j + 1)))) = some (tX ((i + 90 + 1) * (j + 1))) := by decide +kernel
theorem xyAll1 (i : Nat) (h0 : 50 ≤ i) (h1 : i < 100) (j : Nat) (hj : j < 200) : fop .mul .f32 (some (tX (8 * (i + 1)))) (some (tX (8 * (j + 1)))) = some (tX ((i + 1) * (j + 1))) := by
  by_cases h0 : i < 60
  · have := xy_1_0 (i - 50) (by omega) j hj; rwa [show i - 50 + 50 = i by omega] at this
  by_cases h1 : i < 70
  · have := xy_1_1 (i - 60) (by omega) j hj; rwa [show i - 60 + 60 = i by omega] at this
  by_cases h2 : i < 80
  · have := xy_1_2 (i - 70) (by omega) j hj; rwa [show i - 70 + 70 = i by omega] at this
  by_cases h3 : i < 90
  · have := xy_1_3 (i - 80) (by omega) j hj; rwa [show i - 80 + 80 = i by omega] at this
  by_cases h4 : i < 100
  · have := xy_1_4 (i - 90) (by omega) j hj; rwa [show i - 90 + 90 = i by omega] at this
  omega
end Go.Proofs.Ytigcnipgmjmenaa.Ct

namespace Go.Proofs.Ytigcnipgmjmenaa.Ct
open Go.Fl Go.RowKit Ieee
set_option maxHeartbeats 0 in
theorem xy_2_0 : ∀ i : Nat, i < 10 → ∀ j : Nat, j < 200 → fop .mul .f32 (some (tX (8 * (i + 100 + 1)))) (some (tX (8 * (j + 1)))) = some (tX ((i + 100 + 1) * (j + 1))) := by decide +kernel
set_option maxHeartbeats 0 in
theorem xy_2_1 : ∀ i : Nat, i < 10 → ∀ j : Nat, j < 200 → fop .mul .f32 (some (tX (8 * (i + 110 + 1)))) (some (tX (8 * (j + 1)))) = some (tX ((i + 110 + 1) * (j + 1))) := by decide +kernel
set_option maxHeartbeats 0 in
theorem xy_2_2 : ∀ i : Nat, i < 10 → ∀ j : Nat, j < 200 → fop .mul .f32 (some (tX (8 * (i + 120 + 1)))) (some (tX (8 * (j + 1)))) = some (tX ((i + 120 + 1) * (j + 1))) := by decide +kernel
set_option maxHeartbeats 0 in
theorem xy_2_3 : ∀ i : Nat, i < 10 → ∀ j : Nat, j < 200 → fop .mul .f32 (some (tX (8 * (i + 130 + 1)))) (some (tX (8 * (j + 1)))) = some (tX ((i + 130 + 1) * (j + 1))) := by decide +kernel
set_option maxHeartbeats 0 in
theorem xy_2_4 : ∀ i : Nat, i < 10 → ∀ j : Nat, j < 200 → fop .mul .f32 (some (tX (8 * (i + 140 + 1)))) (some (tX (8 * (j + 1)))) = some (tX ((i + 140 + 1) * (j + 1))) := by decide +kernel
theorem xyAll2 (i : Nat) (h0 : 100 ≤ i) (h1 : i < 150) (j : Nat) (hj : j < 200) : fop .mul .f32 (some (tX (8 * (i + 1)))) (some (tX (8 * (j + 1)))) = some (tX ((i + 1) * (j + 1))) := by
  by_cases h0 : i < 110
  · have := xy_2_0 (i - 100) (by omega) j hj; rwa [show i - 100 + 100 = i by omega] at this
  by_cases h1 : i < 120
  · have := xy_2_1 (i - 110) (by omega) j hj; rwa [show i - 110 + 110 = i by omega] at this
  by_cases h2 : i < 130
  · have := xy_2_2 (i - 120) (by omega) j hj; rwa [show i - 120 + 120 = i by omega] at this
  by_cases h3 : i < 140
  · have := xy_2_3 (i - 130) (by omega) j hj; rwa [show i - 130 + 130 = i by omega] at this
  by_cases h4 : i < 150
  · have := xy_2_4 (i - 140) (by omega) j hj; rwa [show i - 140 + 140 = i by omega] at this
  omega
end Go.Proofs.Ytigcnipgmjmenaa.Ct

namespace Go.Proofs.Ytigcnipgmjmenaa.Ct
open Go.Fl Go.RowKit Ieee
set_option maxHeartbeats 0 in
theorem xy_3_0 : ∀ i : Nat, i < 10 → ∀ j : Nat, j < 200 → fop .mul .f32 (some (tX (8 * (i + 150 + 1)))) (some (tX (8 * (j + 1)))) = some (tX ((i + 150 + 1) * (j + 1))) := by decide +kernel
set_option maxHeartbeats 0 in
theorem xy_3_1 : ∀ i : Nat, i < 10 → ∀ j : Nat, j < 200 → fop .mul .f32 (some (tX (8 * (i + 160 + 1)))) (some (tX (8 * (j + 1)))) = some (tX ((i + 160 + 1) * (j + 1))) := by decide +kernel
set_option maxHeartbeats 0 in
theorem xy_3_2 : ∀ i : Nat, i < 10 → ∀ j : Nat, j < 200 → fop .mul .f32 (some (tX (8 * (i + 170 + 1)))) (some (tX (8 * (j + 1)))) = some (tX ((i + 170 + 1) * (j + 1))) := by decide +kernel
set_option maxHeartbeats 0 in
theorem xy_3_3 : ∀ i : Nat, i < 10 → ∀ j : Nat, j < 200 → fop .mul .f32 (some (tX (8 * (i + 180 + 1)))) (some (tX (8 * (j + 1)))) = some (tX ((i + 180 + 1) * (j + 1))) := by decide +kernel
set_option maxHeartbeats 0 in
theorem xy_3_4 : ∀ i : Nat, i < 10 → ∀ j : Nat, j < 200 → fop .mul .f32 (some (tX (8 * (i + 190 + 1)))) (some (tX (8 * (j + 1)))) = some (tX ((i + 190 + 1) * (j + 1))) := by decide +kernel
theorem xyAll3 (i : Nat) (h0 : 150 ≤ i) (h1 : i < 200) (j : Nat) (hj : j < 200) : fop .mul .f32 (some (tX (8 * (i + 1)))) (some (tX (8 * (j + 1)))) = some (tX ((i + 1) * (j + 1))) := by
  by_cases h0 : i < 160
  · have := xy_3_0 (i - 150) (by omega) j hj; rwa [show i - 150 + 150 = i by omega] at this
  by_cases h1 : i < 170
  · have := xy_3_1 (i - 160) (by omega) j hj; rwa [show i - 160 + 160 = i by omega] at this
  by_cases h2 : i < 180
  · have := xy_3_2 (i - 170) (by omega) j hj; rwa [show i - 170 + 170 = i by omega] at this
  by_cases h3 : i < 190
  · have := xy_3_3 (i - 180) (by omega) j hj; rwa [show i - 180 + 180 = i by omega] at this
  by_cases h4 : i < 200
  · have := xy_3_4 (i - 190) (by omega) j hj; rwa [show i - 190 + 190 = i by omega] at this
  omega
end Go.Proofs.Ytigcnipgmjmenaa.Ct
