/- Tenths of decibels of 64ths: from 1194 to 2772. -/
import Derived.Test.YtigcnipgmjmenaaCt
set_option exponentiation.threshold 3000
set_option maxRecDepth 100000
namespace Go.Proofs.Ytigcnipgmjmenaa.Ct
open Go.Fl Go.RowKit Ieee
set_option maxHeartbeats 0 in
theorem ten1_0 : ∀ d : Nat, d < 147 → tenOk (d + 1194) = true := by decide +kernel
set_option maxHeartbeats 0 in
theorem ten1_1 : ∀ d : Nat, d < 150 → tenOk (d + 1341) = true := by decide +kernel
set_option maxHeartbeats 0 in
theorem ten1_2 : ∀ d : Nat, d < 152 → tenOk (d + 1491) = true := by decide +kernel
set_option maxHeartbeats 0 in
theorem ten1_3 : ∀ d : Nat, d < 151 → tenOk (d + 1643) = true := by decide +kernel
set_option maxHeartbeats 0 in
theorem ten1_4 : ∀ d : Nat, d < 161 → tenOk (d + 1794) = true := by decide +kernel
set_option maxHeartbeats 0 in
theorem ten1_5 : ∀ d : Nat, d < 161 → tenOk (d + 1955) = true := by decide +kernel
set_option maxHeartbeats 0 in
theorem ten1_6 : ∀ d : Nat, d < 161 → tenOk (d + 2116) = true := by decide +kernel
set_option maxHeartbeats 0 in
theorem ten1_7 : ∀ d : Nat, d < 163 → tenOk (d + 2277) = true := by decide +kernel
set_option maxHeartbeats 0 in
theorem ten1_8 : ∀ d : Nat, d < 168 → tenOk (d + 2440) = true := by decide +kernel
set_option maxHeartbeats 0 in
theorem ten1_9 : ∀ d : Nat, d < 165 → tenOk (d + 2608) = true := by decide +kernel
theorem tenAll1 (n : Nat) (h0 : 1194 ≤ n) (h1 : n < 2773) : tenOk n = true := by
  by_cases h0 : n < 1341
  · have := ten1_0 (n - 1194) (by omega); rwa [show n - 1194 + 1194 = n by omega] at this
  by_cases h1 : n < 1491
  · have := ten1_1 (n - 1341) (by omega); rwa [show n - 1341 + 1341 = n by omega] at this
  by_cases h2 : n < 1643
  · have := ten1_2 (n - 1491) (by omega); rwa [show n - 1491 + 1491 = n by omega] at this
  by_cases h3 : n < 1794
  · have := ten1_3 (n - 1643) (by omega); rwa [show n - 1643 + 1643 = n by omega] at this
  by_cases h4 : n < 1955
  · have := ten1_4 (n - 1794) (by omega); rwa [show n - 1794 + 1794 = n by omega] at this
  by_cases h5 : n < 2116
  · have := ten1_5 (n - 1955) (by omega); rwa [show n - 1955 + 1955 = n by omega] at this
  by_cases h6 : n < 2277
  · have := ten1_6 (n - 2116) (by omega); rwa [show n - 2116 + 2116 = n by omega] at this
  by_cases h7 : n < 2440
  · have := ten1_7 (n - 2277) (by omega); rwa [show n - 2277 + 2277 = n by omega] at this
  by_cases h8 : n < 2608
  · have := ten1_8 (n - 2440) (by omega); rwa [show n - 2440 + 2440 = n by omega] at this
  by_cases h9 : n < 2773
  · have := ten1_9 (n - 2608) (by omega); rwa [show n - 2608 + 2608 = n by omega] at this
  omega
end Go.Proofs.Ytigcnipgmjmenaa.Ct
