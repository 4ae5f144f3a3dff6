/- Tenths of decibels of 64ths: from 13843 to 16715. -/
import Derived.Test.YtigcnipgmjmenaaCt
set_option exponentiation.threshold 3000
set_option maxRecDepth 100000
namespace Go.Proofs.Ytigcnipgmjmenaa.Ct
open Go.Fl Go.RowKit Ieee
set_option maxHeartbeats 0 in
theorem ten7_0 : ∀ d : Nat, d < 282 → tenOk (d + 13843) = true := by decide +kernel
set_option maxHeartbeats 0 in
theorem ten7_1 : ∀ d : Nat, d < 271 → tenOk (d + 14125) = true := by decide +kernel
set_option maxHeartbeats 0 in
theorem ten7_2 : ∀ d : Nat, d < 289 → tenOk (d + 14396) = true := by decide +kernel
set_option maxHeartbeats 0 in
theorem ten7_3 : ∀ d : Nat, d < 279 → tenOk (d + 14685) = true := by decide +kernel
set_option maxHeartbeats 0 in
theorem ten7_4 : ∀ d : Nat, d < 286 → tenOk (d + 14964) = true := by decide +kernel
set_option maxHeartbeats 0 in
theorem ten7_5 : ∀ d : Nat, d < 302 → tenOk (d + 15250) = true := by decide +kernel
set_option maxHeartbeats 0 in
theorem ten7_6 : ∀ d : Nat, d < 284 → tenOk (d + 15552) = true := by decide +kernel
set_option maxHeartbeats 0 in
theorem ten7_7 : ∀ d : Nat, d < 288 → tenOk (d + 15836) = true := by decide +kernel
set_option maxHeartbeats 0 in
theorem ten7_8 : ∀ d : Nat, d < 306 → tenOk (d + 16124) = true := by decide +kernel
set_option maxHeartbeats 0 in
theorem ten7_9 : ∀ d : Nat, d < 286 → tenOk (d + 16430) = true := by decide +kernel
theorem tenAll7 (n : Nat) (h0 : 13843 ≤ n) (h1 : n < 16716) : tenOk n = true := by
  by_cases h0 : n < 14125
  · have := ten7_0 (n - 13843) (by omega); rwa [show n - 13843 + 13843 = n by omega] at this
  by_cases h1 : n < 14396
  · have := ten7_1 (n - 14125) (by omega); rwa [show n - 14125 + 14125 = n by omega] at this
  by_cases h2 : n < 14685
  · have := ten7_2 (n - 14396) (by omega); rwa [show n - 14396 + 14396 = n by omega] at this
  by_cases h3 : n < 14964
  · have := ten7_3 (n - 14685) (by omega); rwa [show n - 14685 + 14685 = n by omega] at this
  by_cases h4 : n < 15250
  · have := ten7_4 (n - 14964) (by omega); rwa [show n - 14964 + 14964 = n by omega] at this
  by_cases h5 : n < 15552
  · have := ten7_5 (n - 15250) (by omega); rwa [show n - 15250 + 15250 = n by omega] at this
  by_cases h6 : n < 15836
  · have := ten7_6 (n - 15552) (by omega); rwa [show n - 15552 + 15552 = n by omega] at this
  by_cases h7 : n < 16124
  · have := ten7_7 (n - 15836) (by omega); rwa [show n - 15836 + 15836 = n by omega] at this
  by_cases h8 : n < 16430
  · have := ten7_8 (n - 16124) (by omega); rwa [show n - 16124 + 16124 = n by omega] at this
  by_cases h9 : n < 16716
  · have := ten7_9 (n - 16430) (by omega); rwa [show n - 16430 + 16430 = n by omega] at this
  omega
end Go.Proofs.Ytigcnipgmjmenaa.Ct
