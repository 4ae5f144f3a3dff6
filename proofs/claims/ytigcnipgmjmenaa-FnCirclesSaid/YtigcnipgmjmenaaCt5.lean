/- Tenths of decibels of 64ths: from 8814 to 11226. -/
import Derived.Test.YtigcnipgmjmenaaCt
set_option exponentiation.threshold 3000
set_option maxRecDepth 100000
namespace Go.Proofs.Ytigcnipgmjmenaa.Ct
open Go.Fl Go.RowKit Ieee
set_option maxHeartbeats 0 in
theorem ten5_0 : ∀ d : Nat, d < 233 → tenOk (d + 8814) = true := by decide +kernel
set_option maxHeartbeats 0 in
theorem ten5_1 : ∀ d : Nat, d < 244 → tenOk (d + 9047) = true := by decide +kernel
set_option maxHeartbeats 0 in
theorem ten5_2 : ∀ d : Nat, d < 229 → tenOk (d + 9291) = true := by decide +kernel
set_option maxHeartbeats 0 in
theorem ten5_3 : ∀ d : Nat, d < 245 → tenOk (d + 9520) = true := by decide +kernel
set_option maxHeartbeats 0 in
theorem ten5_4 : ∀ d : Nat, d < 239 → tenOk (d + 9765) = true := by decide +kernel
set_option maxHeartbeats 0 in
theorem ten5_5 : ∀ d : Nat, d < 242 → tenOk (d + 10004) = true := by decide +kernel
set_option maxHeartbeats 0 in
theorem ten5_6 : ∀ d : Nat, d < 248 → tenOk (d + 10246) = true := by decide +kernel
set_option maxHeartbeats 0 in
theorem ten5_7 : ∀ d : Nat, d < 237 → tenOk (d + 10494) = true := by decide +kernel
set_option maxHeartbeats 0 in
theorem ten5_8 : ∀ d : Nat, d < 254 → tenOk (d + 10731) = true := by decide +kernel
set_option maxHeartbeats 0 in
theorem ten5_9 : ∀ d : Nat, d < 242 → tenOk (d + 10985) = true := by decide +kernel
theorem tenAll5 (n : Nat) (h0 : 8814 ≤ n) (h1 : n < 11227) : tenOk n = true := by
  by_cases h0 : n < 9047
  · have := ten5_0 (n - 8814) (by omega); rwa [show n - 8814 + 8814 = n by omega] at this
  by_cases h1 : n < 9291
  · have := ten5_1 (n - 9047) (by omega); rwa [show n - 9047 + 9047 = n by omega] at this
  by_cases h2 : n < 9520
  · have := ten5_2 (n - 9291) (by omega); rwa [show n - 9291 + 9291 = n by omega] at this
  by_cases h3 : n < 9765
  · have := ten5_3 (n - 9520) (by omega); rwa [show n - 9520 + 9520 = n by omega] at this
  by_cases h4 : n < 10004
  · have := ten5_4 (n - 9765) (by omega); rwa [show n - 9765 + 9765 = n by omega] at this
  by_cases h5 : n < 10246
  · have := ten5_5 (n - 10004) (by omega); rwa [show n - 10004 + 10004 = n by omega] at this
  by_cases h6 : n < 10494
  · have := ten5_6 (n - 10246) (by omega); rwa [show n - 10246 + 10246 = n by omega] at this
  by_cases h7 : n < 10731
  · have := ten5_7 (n - 10494) (by omega); rwa [show n - 10494 + 10494 = n by omega] at this
  by_cases h8 : n < 10985
  · have := ten5_8 (n - 10731) (by omega); rwa [show n - 10731 + 10731 = n by omega] at this
  by_cases h9 : n < 11227
  · have := ten5_9 (n - 10985) (by omega); rwa [show n - 10985 + 10985 = n by omega] at this
  omega
end Go.Proofs.Ytigcnipgmjmenaa.Ct
