/- Tenths of decibels of 64ths: from 23635 to 28517. -/
import Derived.Test.YtigcnipgmjmenaaCt
set_option exponentiation.threshold 3000
set_option maxRecDepth 100000
namespace Go.Proofs.Ytigcnipgmjmenaa.Ct
open Go.Fl Go.RowKit Ieee
set_option maxHeartbeats 0 in
theorem ten10_0 : ∀ d : Nat, d < 431 → tenOk (d + 23635) = true := by decide +kernel
set_option maxHeartbeats 0 in
theorem ten10_1 : ∀ d : Nat, d < 434 → tenOk (d + 24066) = true := by decide +kernel
set_option maxHeartbeats 0 in
theorem ten10_2 : ∀ d : Nat, d < 448 → tenOk (d + 24500) = true := by decide +kernel
set_option maxHeartbeats 0 in
theorem ten10_3 : ∀ d : Nat, d < 465 → tenOk (d + 24948) = true := by decide +kernel
set_option maxHeartbeats 0 in
theorem ten10_4 : ∀ d : Nat, d < 470 → tenOk (d + 25413) = true := by decide +kernel
set_option maxHeartbeats 0 in
theorem ten10_5 : ∀ d : Nat, d < 481 → tenOk (d + 25883) = true := by decide +kernel
set_option maxHeartbeats 0 in
theorem ten10_6 : ∀ d : Nat, d < 496 → tenOk (d + 26364) = true := by decide +kernel
set_option maxHeartbeats 0 in
theorem ten10_7 : ∀ d : Nat, d < 527 → tenOk (d + 26860) = true := by decide +kernel
set_option maxHeartbeats 0 in
theorem ten10_8 : ∀ d : Nat, d < 543 → tenOk (d + 27387) = true := by decide +kernel
set_option maxHeartbeats 0 in
theorem ten10_9 : ∀ d : Nat, d < 588 → tenOk (d + 27930) = true := by decide +kernel
theorem tenAll10 (n : Nat) (h0 : 23635 ≤ n) (h1 : n < 28518) : tenOk n = true := by
  by_cases h0 : n < 24066
  · have := ten10_0 (n - 23635) (by omega); rwa [show n - 23635 + 23635 = n by omega] at this
  by_cases h1 : n < 24500
  · have := ten10_1 (n - 24066) (by omega); rwa [show n - 24066 + 24066 = n by omega] at this
  by_cases h2 : n < 24948
  · have := ten10_2 (n - 24500) (by omega); rwa [show n - 24500 + 24500 = n by omega] at this
  by_cases h3 : n < 25413
  · have := ten10_3 (n - 24948) (by omega); rwa [show n - 24948 + 24948 = n by omega] at this
  by_cases h4 : n < 25883
  · have := ten10_4 (n - 25413) (by omega); rwa [show n - 25413 + 25413 = n by omega] at this
  by_cases h5 : n < 26364
  · have := ten10_5 (n - 25883) (by omega); rwa [show n - 25883 + 25883 = n by omega] at this
  by_cases h6 : n < 26860
  · have := ten10_6 (n - 26364) (by omega); rwa [show n - 26364 + 26364 = n by omega] at this
  by_cases h7 : n < 27387
  · have := ten10_7 (n - 26860) (by omega); rwa [show n - 26860 + 26860 = n by omega] at this
  by_cases h8 : n < 27930
  · have := ten10_8 (n - 27387) (by omega); rwa [show n - 27387 + 27387 = n by omega] at this
  by_cases h9 : n < 28518
  · have := ten10_9 (n - 27930) (by omega); rwa [show n - 27930 + 27930 = n by omega] at this
  omega
end Go.Proofs.Ytigcnipgmjmenaa.Ct
