/- Tenths of decibels of 64ths: from 19900 to 23634. -/
import Derived.Test.YtigcnipgmjmenaaCt
set_option exponentiation.threshold 3000
set_option maxRecDepth 100000
namespace Go.Proofs.Ytigcnipgmjmenaa.Ct
open Go.Fl Go.RowKit Ieee
set_option maxHeartbeats 0 in
theorem ten9_0 : ∀ d : Nat, d < 350 → tenOk (d + 19900) = true := by decide +kernel
set_option maxHeartbeats 0 in
theorem ten9_1 : ∀ d : Nat, d < 340 → tenOk (d + 20250) = true := by decide +kernel
set_option maxHeartbeats 0 in
theorem ten9_2 : ∀ d : Nat, d < 354 → tenOk (d + 20590) = true := by decide +kernel
set_option maxHeartbeats 0 in
theorem ten9_3 : ∀ d : Nat, d < 362 → tenOk (d + 20944) = true := by decide +kernel
set_option maxHeartbeats 0 in
theorem ten9_4 : ∀ d : Nat, d < 364 → tenOk (d + 21306) = true := by decide +kernel
set_option maxHeartbeats 0 in
theorem ten9_5 : ∀ d : Nat, d < 376 → tenOk (d + 21670) = true := by decide +kernel
set_option maxHeartbeats 0 in
theorem ten9_6 : ∀ d : Nat, d < 390 → tenOk (d + 22046) = true := by decide +kernel
set_option maxHeartbeats 0 in
theorem ten9_7 : ∀ d : Nat, d < 380 → tenOk (d + 22436) = true := by decide +kernel
set_option maxHeartbeats 0 in
theorem ten9_8 : ∀ d : Nat, d < 424 → tenOk (d + 22816) = true := by decide +kernel
set_option maxHeartbeats 0 in
theorem ten9_9 : ∀ d : Nat, d < 395 → tenOk (d + 23240) = true := by decide +kernel
theorem tenAll9 (n : Nat) (h0 : 19900 ≤ n) (h1 : n < 23635) : tenOk n = true := by
  by_cases h0 : n < 20250
  · have := ten9_0 (n - 19900) (by omega); rwa [show n - 19900 + 19900 = n by omega] at this
  by_cases h1 : n < 20590
  · have := ten9_1 (n - 20250) (by omega); rwa [show n - 20250 + 20250 = n by omega] at this
  by_cases h2 : n < 20944
  · have := ten9_2 (n - 20590) (by omega); rwa [show n - 20590 + 20590 = n by omega] at this
  by_cases h3 : n < 21306
  · have := ten9_3 (n - 20944) (by omega); rwa [show n - 20944 + 20944 = n by omega] at this
  by_cases h4 : n < 21670
  · have := ten9_4 (n - 21306) (by omega); rwa [show n - 21306 + 21306 = n by omega] at this
  by_cases h5 : n < 22046
  · have := ten9_5 (n - 21670) (by omega); rwa [show n - 21670 + 21670 = n by omega] at this
  by_cases h6 : n < 22436
  · have := ten9_6 (n - 22046) (by omega); rwa [show n - 22046 + 22046 = n by omega] at this
  by_cases h7 : n < 22816
  · have := ten9_7 (n - 22436) (by omega); rwa [show n - 22436 + 22436 = n by omega] at this
  by_cases h8 : n < 23240
  · have := ten9_8 (n - 22816) (by omega); rwa [show n - 22816 + 22816 = n by omega] at this
  by_cases h9 : n < 23635
  · have := ten9_9 (n - 23240) (by omega); rwa [show n - 23240 + 23240 = n by omega] at this
  omega
end Go.Proofs.Ytigcnipgmjmenaa.Ct
