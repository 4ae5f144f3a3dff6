/- The plain law of FnExactCheckOf: both loops over a text's bytes make the same number. No condition. -/
import Derived.Test.YtomgfpifddiioaaPFnExactCheckOfx1
namespace Go.Proofs.Ytomgfpifddiioaa.Pure
open Go.RowKit Go.Proofs.Ytomgfpifddiioaa.PFnExactCheckOf Go.Proofs.YtomgfpifddiioaaW.PrintWords Go.Proofs.YtomgfpifddiioaaW.PrintLast

theorem check_loops (s : ByteArray) (hn : s.size ≤ 140737488351232) (d : Nat) : ∀ (k : Nat) (n i : Int), 0 ≤ i → i ≤ s.size → (s.size : Int) - i = d → d < k →
    ∃ r, spec_l01Check.l0 k n s i = some r ∧ impl_CheckOf.l0 k n s s.size i = some (r, true) := by
  induction d with
  | zero =>
    intro k n i h0 h1 hd hk
    obtain ⟨k, rfl⟩ : ∃ m, k = m + 1 := ⟨k - 1, by omega⟩
    simp only [spec_l01Check.l0, impl_CheckOf.l0]
    rw [if_neg (show ¬ i < (s.size : Int) by omega), if_neg (show ¬ i < (s.size : Int) by omega)]
    exact ⟨_, rfl, rfl⟩
  | succ d ih =>
    intro k n i h0 h1 hd hk
    obtain ⟨k, rfl⟩ : ∃ m, k = m + 1 := ⟨k - 1, by omega⟩
    have hlt : i < (s.size : Int) := by omega
    have hw : wrap64 (i + 1) = i + 1 := by unfold wrap64; omega
    simp only [spec_l01Check.l0, impl_CheckOf.l0]
    rw [if_pos hlt, if_pos h0, if_pos hlt, if_pos h0, if_pos hlt, hw]
    exact ih k _ (i + 1) (by omega) (by omega) (by omega) (by omega)

theorem FnExactCheckOf : laws_FnExactCheckOf.Pure := by
  intro n s _ hn
  obtain ⟨r, a, b⟩ := check_loops s hn s.size (s.size + 1) n 0 (by omega) (by omega) (by omega) (by omega)
  refine ⟨s.size + 1, ?_⟩
  unfold laws_FnExactCheckOf.f spec_CheckOf.f impl_CheckOf.f spec_l01Check.f impl_within.f spec_l00In.f
  rw [a, b]
  by_cases h1 : n ≥ 0 <;> by_cases h2 : n ≤ 65002 <;> simp [h1, h2]
end Go.Proofs.Ytomgfpifddiioaa.Pure
