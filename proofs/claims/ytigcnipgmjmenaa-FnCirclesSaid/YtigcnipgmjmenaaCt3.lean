/- Tenths of decibels of 64ths: from 4588 to 6611. -/
import Derived.Test.YtigcnipgmjmenaaCt
set_option exponentiation.threshold 3000
set_option maxRecDepth 100000
namespace Go.Proofs.Ytigcnipgmjmenaa.Ct
open Go.Fl Go.RowKit Ieee
set_option maxHeartbeats 0 in
theorem ten3_0 : ∀ d : Nat, d < 197 → tenOk (d + 4588) = true := by decide +kernel
set_option maxHeartbeats 0 in
theorem ten3_1 : ∀ d : Nat, d < 197 → tenOk (d + 4785) = true := by decide +kernel
set_option maxHeartbeats 0 in
theorem ten3_2 : ∀ d : Nat, d < 199 → tenOk (d + 4982) = true := by decide +kernel
set_option maxHeartbeats 0 in
theorem ten3_3 : ∀ d : Nat, d < 191 → tenOk (d + 5181) = true := by decide +kernel
set_option maxHeartbeats 0 in
theorem ten3_4 : ∀ d : Nat, d < 200 → tenOk (d + 5372) = true := by decide +kernel
set_option maxHeartbeats 0 in
theorem ten3_5 : ∀ d : Nat, d < 205 → tenOk (d + 5572) = true := by decide +kernel
set_option maxHeartbeats 0 in
theorem ten3_6 : ∀ d : Nat, d < 207 → tenOk (d + 5777) = true := by decide +kernel
set_option maxHeartbeats 0 in
theorem ten3_7 : ∀ d : Nat, d < 211 → tenOk (d + 5984) = true := by decide +kernel
set_option maxHeartbeats 0 in
theorem ten3_8 : ∀ d : Nat, d < 206 → tenOk (d + 6195) = true := by decide +kernel
set_option maxHeartbeats 0 in
theorem ten3_9 : ∀ d : Nat, d < 211 → tenOk (d + 6401) = true := by decide +kernel
theorem tenAll3 (n : Nat) (h0 : 4588 ≤ n) (h1 : n < 6612) : tenOk n = true := by
  by_cases h0 : n < 4785
  · have := ten3_0 (n - 4588) (by omega); rwa [show n - 4588 + 4588 = n by omega] at this
  by_cases h1 : n < 4982
  · have := ten3_1 (n - 4785) (by omega); rwa [show n - 4785 + 4785 = n by omega] at this
  by_cases h2 : n < 5181
  · have := ten3_2 (n - 4982) (by omega); rwa [show n - 4982 + 4982 = n by omega] at this
  by_cases h3 : n < 5372
  · have := ten3_3 (n - 5181) (by omega); rwa [show n - 5181 + 5181 = n by omega] at this
  by_cases h4 : n < 5572
  · have := ten3_4 (n - 5372) (by omega); rwa [show n - 5372 + 5372 = n by omega] at this
  by_cases h5 : n < 5777
  · have := ten3_5 (n - 5572) (by omega); rwa [show n - 5572 + 5572 = n by omega] at this
  by_cases h6 : n < 5984
  · have := ten3_6 (n - 5777) (by omega); rwa [show n - 5777 + 5777 = n by omega] at this
  by_cases h7 : n < 6195
  · have := ten3_7 (n - 5984) (by omega); rwa [show n - 5984 + 5984 = n by omega] at this
  by_cases h8 : n < 6401
  · have := ten3_8 (n - 6195) (by omega); rwa [show n - 6195 + 6195 = n by omega] at this
  by_cases h9 : n < 6612
  · have := ten3_9 (n - 6401) (by omega); rwa [show n - 6401 + 6401 = n by omega] at this
  omega
end Go.Proofs.Ytigcnipgmjmenaa.Ct
