/- Tenths of decibels of 64ths: from 0 to 1193. -/
import Derived.Test.YtigcnipgmjmenaaCt
set_option exponentiation.threshold 3000
set_option maxRecDepth 100000
namespace Go.Proofs.Ytigcnipgmjmenaa.Ct
open Go.Fl Go.RowKit Ieee
set_option maxHeartbeats 0 in
theorem ten0_0 : ∀ d : Nat, d < 94 → tenOk (d + 0) = true := by decide +kernel
set_option maxHeartbeats 0 in
theorem ten0_1 : ∀ d : Nat, d < 93 → tenOk (d + 94) = true := by decide +kernel
set_option maxHeartbeats 0 in
theorem ten0_2 : ∀ d : Nat, d < 109 → tenOk (d + 187) = true := by decide +kernel
set_option maxHeartbeats 0 in
theorem ten0_3 : ∀ d : Nat, d < 110 → tenOk (d + 296) = true := by decide +kernel
set_option maxHeartbeats 0 in
theorem ten0_4 : ∀ d : Nat, d < 123 → tenOk (d + 406) = true := by decide +kernel
set_option maxHeartbeats 0 in
theorem ten0_5 : ∀ d : Nat, d < 123 → tenOk (d + 529) = true := by decide +kernel
set_option maxHeartbeats 0 in
theorem ten0_6 : ∀ d : Nat, d < 131 → tenOk (d + 652) = true := by decide +kernel
set_option maxHeartbeats 0 in
theorem ten0_7 : ∀ d : Nat, d < 134 → tenOk (d + 783) = true := by decide +kernel
set_option maxHeartbeats 0 in
theorem ten0_8 : ∀ d : Nat, d < 140 → tenOk (d + 917) = true := by decide +kernel
set_option maxHeartbeats 0 in
theorem ten0_9 : ∀ d : Nat, d < 137 → tenOk (d + 1057) = true := by decide +kernel
theorem tenAll0 (n : Nat) (h0 : 0 ≤ n) (h1 : n < 1194) : tenOk n = true := by
  by_cases h0 : n < 94
  · have := ten0_0 (n - 0) (by omega); rwa [show n - 0 + 0 = n by omega] at this
  by_cases h1 : n < 187
  · have := ten0_1 (n - 94) (by omega); rwa [show n - 94 + 94 = n by omega] at this
  by_cases h2 : n < 296
  · have := ten0_2 (n - 187) (by omega); rwa [show n - 187 + 187 = n by omega] at this
  by_cases h3 : n < 406
  · have := ten0_3 (n - 296) (by omega); rwa [show n - 296 + 296 = n by omega] at this
  by_cases h4 : n < 529
  · have := ten0_4 (n - 406) (by omega); rwa [show n - 406 + 406 = n by omega] at this
  by_cases h5 : n < 652
  · have := ten0_5 (n - 529) (by omega); rwa [show n - 529 + 529 = n by omega] at this
  by_cases h6 : n < 783
  · have := ten0_6 (n - 652) (by omega); rwa [show n - 652 + 652 = n by omega] at this
  by_cases h7 : n < 917
  · have := ten0_7 (n - 783) (by omega); rwa [show n - 783 + 783 = n by omega] at this
  by_cases h8 : n < 1057
  · have := ten0_8 (n - 917) (by omega); rwa [show n - 917 + 917 = n by omega] at this
  by_cases h9 : n < 1194
  · have := ten0_9 (n - 1057) (by omega); rwa [show n - 1057 + 1057 = n by omega] at this
  omega
end Go.Proofs.Ytigcnipgmjmenaa.Ct
