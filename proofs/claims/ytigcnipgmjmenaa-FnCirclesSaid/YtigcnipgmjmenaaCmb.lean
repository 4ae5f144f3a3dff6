/- Products of phasors: the other half of the pairs. -/
import Derived.Test.YtigcnipgmjmenaaCi
set_option exponentiation.threshold 3000
set_option maxRecDepth 100000
namespace Go.Proofs.Ytigcnipgmjmenaa.Ci
open Go.Fl Go.RowKit Ieee
theorem mulAll2 : ∀ i : Nat, i < 16 → ∀ j : Nat, j < 64 → mulOk (i + 32) j = true := by decide +kernel
end Go.Proofs.Ytigcnipgmjmenaa.Ci

namespace Go.Proofs.Ytigcnipgmjmenaa.Ci
open Go.Fl Go.RowKit Ieee
theorem mulAll3 : ∀ i : Nat, i < 16 → ∀ j : Nat, j < 64 → mulOk (i + 48) j = true := by decide +kernel
end Go.Proofs.Ytigcnipgmjmenaa.Ci
