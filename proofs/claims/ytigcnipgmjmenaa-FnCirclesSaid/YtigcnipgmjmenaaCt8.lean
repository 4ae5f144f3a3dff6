/- Tenths of decibels of 64ths: from 16716 to 19899. -/
import Derived.Test.YtigcnipgmjmenaaCt
set_option exponentiation.threshold 3000
set_option maxRecDepth 100000
namespace Go.Proofs.Ytigcnipgmjmenaa.Ct
open Go.Fl Go.RowKit Ieee
set_option maxHeartbeats 0 in
theorem ten8_0 : ∀ d : Nat, d < 303 → tenOk (d + 16716) = true := by decide +kernel
set_option maxHeartbeats 0 in
theorem ten8_1 : ∀ d : Nat, d < 317 → tenOk (d + 17019) = true := by decide +kernel
set_option maxHeartbeats 0 in
theorem ten8_2 : ∀ d : Nat, d < 310 → tenOk (d + 17336) = true := by decide +kernel
set_option maxHeartbeats 0 in
theorem ten8_3 : ∀ d : Nat, d < 303 → tenOk (d + 17646) = true := by decide +kernel
set_option maxHeartbeats 0 in
theorem ten8_4 : ∀ d : Nat, d < 336 → tenOk (d + 17949) = true := by decide +kernel
set_option maxHeartbeats 0 in
theorem ten8_5 : ∀ d : Nat, d < 318 → tenOk (d + 18285) = true := by decide +kernel
set_option maxHeartbeats 0 in
theorem ten8_6 : ∀ d : Nat, d < 312 → tenOk (d + 18603) = true := by decide +kernel
set_option maxHeartbeats 0 in
theorem ten8_7 : ∀ d : Nat, d < 341 → tenOk (d + 18915) = true := by decide +kernel
set_option maxHeartbeats 0 in
theorem ten8_8 : ∀ d : Nat, d < 325 → tenOk (d + 19256) = true := by decide +kernel
set_option maxHeartbeats 0 in
theorem ten8_9 : ∀ d : Nat, d < 319 → tenOk (d + 19581) = true := by decide +kernel
theorem tenAll8 (n : Nat) (h0 : 16716 ≤ n) (h1 : n < 19900) : tenOk n = true := by
  by_cases h0 : n < 17019
  · have := ten8_0 (n - 16716) (by omega); rwa [show n - 16716 + 16716 = n by omega] at this
  by_cases h1 : n < 17336
  · have := ten8_1 (n - 17019) (by omega); rwa [show n - 17019 + 17019 = n by omega] at this
  by_cases h2 : n < 17646
  · have := ten8_2 (n - 17336) (by omega); rwa [show n - 17336 + 17336 = n by omega] at this
  by_cases h3 : n < 17949
  · have := ten8_3 (n - 17646) (by omega); rwa [show n - 17646 + 17646 = n by omega] at this
  by_cases h4 : n < 18285
  · have := ten8_4 (n - 17949) (by omega); rwa [show n - 17949 + 17949 = n by omega] at this
  by_cases h5 : n < 18603
  · have := ten8_5 (n - 18285) (by omega); rwa [show n - 18285 + 18285 = n by omega] at this
  by_cases h6 : n < 18915
  · have := ten8_6 (n - 18603) (by omega); rwa [show n - 18603 + 18603 = n by omega] at this
  by_cases h7 : n < 19256
  · have := ten8_7 (n - 18915) (by omega); rwa [show n - 18915 + 18915 = n by omega] at this
  by_cases h8 : n < 19581
  · have := ten8_8 (n - 19256) (by omega); rwa [show n - 19256 + 19256 = n by omega] at this
  by_cases h9 : n < 19900
  · have := ten8_9 (n - 19581) (by omega); rwa [show n - 19581 + 19581 = n by omega] at this
  omega
end Go.Proofs.Ytigcnipgmjmenaa.Ct
