/- Tenths of decibels of 64ths: from 28518 to 40000. -/
import Derived.Test.YtigcnipgmjmenaaCt
set_option exponentiation.threshold 3000
set_option maxRecDepth 100000
namespace Go.Proofs.Ytigcnipgmjmenaa.Ct
open Go.Fl Go.RowKit Ieee
set_option maxHeartbeats 0 in
theorem ten11_0 : ∀ d : Nat, d < 579 → tenOk (d + 28518) = true := by decide +kernel
set_option maxHeartbeats 0 in
theorem ten11_1 : ∀ d : Nat, d < 647 → tenOk (d + 29097) = true := by decide +kernel
set_option maxHeartbeats 0 in
theorem ten11_2 : ∀ d : Nat, d < 686 → tenOk (d + 29744) = true := by decide +kernel
set_option maxHeartbeats 0 in
theorem ten11_3 : ∀ d : Nat, d < 722 → tenOk (d + 30430) = true := by decide +kernel
set_option maxHeartbeats 0 in
theorem ten11_4 : ∀ d : Nat, d < 825 → tenOk (d + 31152) = true := by decide +kernel
set_option maxHeartbeats 0 in
theorem ten11_5 : ∀ d : Nat, d < 858 → tenOk (d + 31977) = true := by decide +kernel
set_option maxHeartbeats 0 in
theorem ten11_6 : ∀ d : Nat, d < 1017 → tenOk (d + 32835) = true := by decide +kernel
set_option maxHeartbeats 0 in
theorem ten11_7 : ∀ d : Nat, d < 1214 → tenOk (d + 33852) = true := by decide +kernel
set_option maxHeartbeats 0 in
theorem ten11_8 : ∀ d : Nat, d < 1586 → tenOk (d + 35066) = true := by decide +kernel
set_option maxHeartbeats 0 in
theorem ten11_9 : ∀ d : Nat, d < 3349 → tenOk (d + 36652) = true := by decide +kernel
theorem tenAll11 (n : Nat) (h0 : 28518 ≤ n) (h1 : n < 40001) : tenOk n = true := by
  by_cases h0 : n < 29097
  · have := ten11_0 (n - 28518) (by omega); rwa [show n - 28518 + 28518 = n by omega] at this
  by_cases h1 : n < 29744
  · have := ten11_1 (n - 29097) (by omega); rwa [show n - 29097 + 29097 = n by omega] at this
  by_cases h2 : n < 30430
  · have := ten11_2 (n - 29744) (by omega); rwa [show n - 29744 + 29744 = n by omega] at this
  by_cases h3 : n < 31152
  · have := ten11_3 (n - 30430) (by omega); rwa [show n - 30430 + 30430 = n by omega] at this
  by_cases h4 : n < 31977
  · have := ten11_4 (n - 31152) (by omega); rwa [show n - 31152 + 31152 = n by omega] at this
  by_cases h5 : n < 32835
  · have := ten11_5 (n - 31977) (by omega); rwa [show n - 31977 + 31977 = n by omega] at this
  by_cases h6 : n < 33852
  · have := ten11_6 (n - 32835) (by omega); rwa [show n - 32835 + 32835 = n by omega] at this
  by_cases h7 : n < 35066
  · have := ten11_7 (n - 33852) (by omega); rwa [show n - 33852 + 33852 = n by omega] at this
  by_cases h8 : n < 36652
  · have := ten11_8 (n - 35066) (by omega); rwa [show n - 35066 + 35066 = n by omega] at this
  by_cases h9 : n < 40001
  · have := ten11_9 (n - 36652) (by omega); rwa [show n - 36652 + 36652 = n by omega] at this
  omega
end Go.Proofs.Ytigcnipgmjmenaa.Ct
