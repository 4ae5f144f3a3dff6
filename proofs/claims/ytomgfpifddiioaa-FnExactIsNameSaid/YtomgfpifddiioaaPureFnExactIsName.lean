/- The plain law of FnExactIsName: both loops over a text's bytes answer the same. No condition. -/
import Derived.Test.YtomgfpifddiioaaPFnExactIsNamex1
namespace Go.Proofs.Ytomgfpifddiioaa.Pure
open Go.RowKit Go.Proofs.Ytomgfpifddiioaa.PFnExactIsName Go.Proofs.YtomgfpifddiioaaW.PrintWords Go.Proofs.YtomgfpifddiioaaW.PrintLast

theorem isName_loops (s : ByteArray) (hn : s.size ≤ 140737488351232) (d : Nat) : ∀ (k : Nat) (i : Int), 0 ≤ i → i ≤ s.size → (s.size : Int) - i = d → d < k →
    ∃ r, spec_IsName.l0 k s i = some r ∧ impl_IsName.l0 k s s.size i = some r := by
  induction d with
  | zero =>
    intro k i h0 h1 hd hk
    obtain ⟨k, rfl⟩ : ∃ m, k = m + 1 := ⟨k - 1, by omega⟩
    simp only [spec_IsName.l0, impl_IsName.l0]
    simp only [if_neg (show ¬ i < (s.size : Int) by omega)]
    split <;> exact ⟨_, rfl, rfl⟩
  | succ d ih =>
    intro k i h0 h1 hd hk
    obtain ⟨k, rfl⟩ : ∃ m, k = m + 1 := ⟨k - 1, by omega⟩
    have hlt : i < (s.size : Int) := by omega
    have hw : wrap64 (i + 1) = i + 1 := by unfold wrap64; omega
    simp only [spec_IsName.l0, impl_IsName.l0]
    simp only [if_pos hlt, if_pos h0, hw]
    obtain ⟨r, a, b⟩ := ih k (i + 1) (by omega) (by omega) (by omega) (by omega)
    split
    · exact ⟨_, rfl, rfl⟩
    · split
      · exact ⟨_, rfl, rfl⟩
      · exact ⟨r, a, b⟩

theorem FnExactIsName : laws_FnExactIsName.Pure := by
  intro s hn
  obtain ⟨r, a, b⟩ := isName_loops s hn s.size (s.size + 1) 0 (by omega) (by omega) (by omega) (by omega)
  refine ⟨s.size + 1, ?_⟩
  unfold laws_FnExactIsName.f spec_IsName.f impl_IsName.f
  rw [a, b]
  simp
end Go.Proofs.Ytomgfpifddiioaa.Pure
