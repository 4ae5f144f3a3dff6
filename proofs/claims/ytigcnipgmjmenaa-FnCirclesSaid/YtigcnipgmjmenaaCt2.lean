/- Tenths of decibels of 64ths: from 2773 to 4587. -/
import Derived.Test.YtigcnipgmjmenaaCt
set_option exponentiation.threshold 3000
set_option maxRecDepth 100000
namespace Go.Proofs.Ytigcnipgmjmenaa.Ct
open Go.Fl Go.RowKit Ieee
set_option maxHeartbeats 0 in
theorem ten2_0 : ∀ d : Nat, d < 170 → tenOk (d + 2773) = true := by decide +kernel
set_option maxHeartbeats 0 in
theorem ten2_1 : ∀ d : Nat, d < 182 → tenOk (d + 2943) = true := by decide +kernel
set_option maxHeartbeats 0 in
theorem ten2_2 : ∀ d : Nat, d < 171 → tenOk (d + 3125) = true := by decide +kernel
set_option maxHeartbeats 0 in
theorem ten2_3 : ∀ d : Nat, d < 181 → tenOk (d + 3296) = true := by decide +kernel
set_option maxHeartbeats 0 in
theorem ten2_4 : ∀ d : Nat, d < 178 → tenOk (d + 3477) = true := by decide +kernel
set_option maxHeartbeats 0 in
theorem ten2_5 : ∀ d : Nat, d < 185 → tenOk (d + 3655) = true := by decide +kernel
set_option maxHeartbeats 0 in
theorem ten2_6 : ∀ d : Nat, d < 188 → tenOk (d + 3840) = true := by decide +kernel
set_option maxHeartbeats 0 in
theorem ten2_7 : ∀ d : Nat, d < 190 → tenOk (d + 4028) = true := by decide +kernel
set_option maxHeartbeats 0 in
theorem ten2_8 : ∀ d : Nat, d < 183 → tenOk (d + 4218) = true := by decide +kernel
set_option maxHeartbeats 0 in
theorem ten2_9 : ∀ d : Nat, d < 187 → tenOk (d + 4401) = true := by decide +kernel
theorem tenAll2 (n : Nat) (h0 : 2773 ≤ n) (h1 : n < 4588) : tenOk n = true := by
  by_cases h0 : n < 2943
  · have := ten2_0 (n - 2773) (by omega); rwa [show n - 2773 + 2773 = n by omega] at this
  by_cases h1 : n < 3125
  · have := ten2_1 (n - 2943) (by omega); rwa [show n - 2943 + 2943 = n by omega] at this
  by_cases h2 : n < 3296
  · have := ten2_2 (n - 3125) (by omega); rwa [show n - 3125 + 3125 = n by omega] at this
  by_cases h3 : n < 3477
  · have := ten2_3 (n - 3296) (by omega); rwa [show n - 3296 + 3296 = n by omega] at this
  by_cases h4 : n < 3655
  · have := ten2_4 (n - 3477) (by omega); rwa [show n - 3477 + 3477 = n by omega] at this
  by_cases h5 : n < 3840
  · have := ten2_5 (n - 3655) (by omega); rwa [show n - 3655 + 3655 = n by omega] at this
  by_cases h6 : n < 4028
  · have := ten2_6 (n - 3840) (by omega); rwa [show n - 3840 + 3840 = n by omega] at this
  by_cases h7 : n < 4218
  · have := ten2_7 (n - 4028) (by omega); rwa [show n - 4028 + 4028 = n by omega] at this
  by_cases h8 : n < 4401
  · have := ten2_8 (n - 4218) (by omega); rwa [show n - 4218 + 4218 = n by omega] at this
  by_cases h9 : n < 4588
  · have := ten2_9 (n - 4401) (by omega); rwa [show n - 4401 + 4401 = n by omega] at this
  omega
end Go.Proofs.Ytigcnipgmjmenaa.Ct
