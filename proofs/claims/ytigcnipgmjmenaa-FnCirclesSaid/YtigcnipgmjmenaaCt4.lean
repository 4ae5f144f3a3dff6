/- Tenths of decibels of 64ths: from 6612 to 8813. -/
import Derived.Test.YtigcnipgmjmenaaCt
set_option exponentiation.threshold 3000
set_option maxRecDepth 100000
namespace Go.Proofs.Ytigcnipgmjmenaa.Ct
open Go.Fl Go.RowKit Ieee
set_option maxHeartbeats 0 in
theorem ten4_0 : ∀ d : Nat, d < 213 → tenOk (d + 6612) = true := by decide +kernel
set_option maxHeartbeats 0 in
theorem ten4_1 : ∀ d : Nat, d < 210 → tenOk (d + 6825) = true := by decide +kernel
set_option maxHeartbeats 0 in
theorem ten4_2 : ∀ d : Nat, d < 215 → tenOk (d + 7035) = true := by decide +kernel
set_option maxHeartbeats 0 in
theorem ten4_3 : ∀ d : Nat, d < 224 → tenOk (d + 7250) = true := by decide +kernel
set_option maxHeartbeats 0 in
theorem ten4_4 : ∀ d : Nat, d < 214 → tenOk (d + 7474) = true := by decide +kernel
set_option maxHeartbeats 0 in
theorem ten4_5 : ∀ d : Nat, d < 225 → tenOk (d + 7688) = true := by decide +kernel
set_option maxHeartbeats 0 in
theorem ten4_6 : ∀ d : Nat, d < 223 → tenOk (d + 7913) = true := by decide +kernel
set_option maxHeartbeats 0 in
theorem ten4_7 : ∀ d : Nat, d < 226 → tenOk (d + 8136) = true := by decide +kernel
set_option maxHeartbeats 0 in
theorem ten4_8 : ∀ d : Nat, d < 233 → tenOk (d + 8362) = true := by decide +kernel
set_option maxHeartbeats 0 in
theorem ten4_9 : ∀ d : Nat, d < 219 → tenOk (d + 8595) = true := by decide +kernel
theorem tenAll4 (n : Nat) (h0 : 6612 ≤ n) (h1 : n < 8814) : tenOk n = true := by
  by_cases h0 : n < 6825
  · have := ten4_0 (n - 6612) (by omega); rwa [show n - 6612 + 6612 = n by omega] at this
  by_cases h1 : n < 7035
  · have := ten4_1 (n - 6825) (by omega); rwa [show n - 6825 + 6825 = n by omega] at this
  by_cases h2 : n < 7250
  · have := ten4_2 (n - 7035) (by omega); rwa [show n - 7035 + 7035 = n by omega] at this
  by_cases h3 : n < 7474
  · have := ten4_3 (n - 7250) (by omega); rwa [show n - 7250 + 7250 = n by omega] at this
  by_cases h4 : n < 7688
  · have := ten4_4 (n - 7474) (by omega); rwa [show n - 7474 + 7474 = n by omega] at this
  by_cases h5 : n < 7913
  · have := ten4_5 (n - 7688) (by omega); rwa [show n - 7688 + 7688 = n by omega] at this
  by_cases h6 : n < 8136
  · have := ten4_6 (n - 7913) (by omega); rwa [show n - 7913 + 7913 = n by omega] at this
  by_cases h7 : n < 8362
  · have := ten4_7 (n - 8136) (by omega); rwa [show n - 8136 + 8136 = n by omega] at this
  by_cases h8 : n < 8595
  · have := ten4_8 (n - 8362) (by omega); rwa [show n - 8362 + 8362 = n by omega] at this
  by_cases h9 : n < 8814
  · have := ten4_9 (n - 8595) (by omega); rwa [show n - 8595 + 8595 = n by omega] at this
  omega
end Go.Proofs.Ytigcnipgmjmenaa.Ct
