/- Tenths of decibels of 64ths: from 11227 to 13842. -/
import Derived.Test.YtigcnipgmjmenaaCt
set_option exponentiation.threshold 3000
set_option maxRecDepth 100000
namespace Go.Proofs.Ytigcnipgmjmenaa.Ct
open Go.Fl Go.RowKit Ieee
set_option maxHeartbeats 0 in
theorem ten6_0 : ∀ d : Nat, d < 246 → tenOk (d + 11227) = true := by decide +kernel
set_option maxHeartbeats 0 in
theorem ten6_1 : ∀ d : Nat, d < 266 → tenOk (d + 11473) = true := by decide +kernel
set_option maxHeartbeats 0 in
theorem ten6_2 : ∀ d : Nat, d < 254 → tenOk (d + 11739) = true := by decide +kernel
set_option maxHeartbeats 0 in
theorem ten6_3 : ∀ d : Nat, d < 257 → tenOk (d + 11993) = true := by decide +kernel
set_option maxHeartbeats 0 in
theorem ten6_4 : ∀ d : Nat, d < 269 → tenOk (d + 12250) = true := by decide +kernel
set_option maxHeartbeats 0 in
theorem ten6_5 : ∀ d : Nat, d < 256 → tenOk (d + 12519) = true := by decide +kernel
set_option maxHeartbeats 0 in
theorem ten6_6 : ∀ d : Nat, d < 265 → tenOk (d + 12775) = true := by decide +kernel
set_option maxHeartbeats 0 in
theorem ten6_7 : ∀ d : Nat, d < 277 → tenOk (d + 13040) = true := by decide +kernel
set_option maxHeartbeats 0 in
theorem ten6_8 : ∀ d : Nat, d < 261 → tenOk (d + 13317) = true := by decide +kernel
set_option maxHeartbeats 0 in
theorem ten6_9 : ∀ d : Nat, d < 265 → tenOk (d + 13578) = true := by decide +kernel
theorem tenAll6 (n : Nat) (h0 : 11227 ≤ n) (h1 : n < 13843) : tenOk n = true := by
  by_cases h0 : n < 11473
  · have := ten6_0 (n - 11227) (by omega); rwa [show n - 11227 + 11227 = n by omega] at this
  by_cases h1 : n < 11739
  · have := ten6_1 (n - 11473) (by omega); rwa [show n - 11473 + 11473 = n by omega] at this
  by_cases h2 : n < 11993
  · have := ten6_2 (n - 11739) (by omega); rwa [show n - 11739 + 11739 = n by omega] at this
  by_cases h3 : n < 12250
  · have := ten6_3 (n - 11993) (by omega); rwa [show n - 11993 + 11993 = n by omega] at this
  by_cases h4 : n < 12519
  · have := ten6_4 (n - 12250) (by omega); rwa [show n - 12250 + 12250 = n by omega] at this
  by_cases h5 : n < 12775
  · have := ten6_5 (n - 12519) (by omega); rwa [show n - 12519 + 12519 = n by omega] at this
  by_cases h6 : n < 13040
  · have := ten6_6 (n - 12775) (by omega); rwa [show n - 12775 + 12775 = n by omega] at this
  by_cases h7 : n < 13317
  · have := ten6_7 (n - 13040) (by omega); rwa [show n - 13040 + 13040 = n by omega] at this
  by_cases h8 : n < 13578
  · have := ten6_8 (n - 13317) (by omega); rwa [show n - 13317 + 13317 = n by omega] at this
  by_cases h9 : n < 13843
  · have := ten6_9 (n - 13578) (by omega); rwa [show n - 13578 + 13578 = n by omega] at this
  omega
end Go.Proofs.Ytigcnipgmjmenaa.Ct
