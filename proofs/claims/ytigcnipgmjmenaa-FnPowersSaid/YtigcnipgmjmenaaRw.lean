/- Rows of numbers in memory: what a slice parameter of whole numbers, or of floats, reads as. No program in sight. -/
import Derived.ChangeSlices
import Derived.WalkKit
namespace Go
def IsRow (k : IntKind) (w : World) (a : Option Addr) (len cap : Nat) (zs : List Int) : Prop :=
  (a = none ∧ len = 0 ∧ cap = 0 ∧ zs = []) ∨
  ∃ x, a = some x ∧ len ≤ cap ∧ cap ≤ maxLen ∧ zs.length = cap ∧ (∀ i, i < zs.length → w.cell? (x.add i) = some (.int k (zs.getD i 0))) ∧ (∀ n ∈ zs, (Lit.int k n).wf = true)
theorem IsRow.len {k : IntKind} {w : World} {a : Option Addr} {len cap : Nat} {zs : List Int} (h : IsRow k w a len cap zs) : zs.length = cap ∧ len ≤ cap ∧ cap ≤ maxLen := by
  rcases h with ⟨-, rfl, rfl, rfl⟩ | ⟨x, -, h1, h2, h3, -⟩
  · exact ⟨rfl, Nat.le_refl _, Nat.zero_le _⟩
  · exact ⟨h3, h1, h2⟩
end Go
