/- The plain law of FnExactIsRing, over the printed functions: program and reference answer alike. No condition beyond the stated bounds. -/
import Derived.Test.YtcigmgocllnhfaaPFnExactIsRingx2
namespace Go.Proofs.Ytcigmgocllnhfaa.Pure
open Go.RowKit Go.Proofs.Ytcigmgocllnhfaa.PFnExactIsRing Go.Proofs.YtcigmgocllnhfaaW.PrintWords Go.Proofs.YtcigmgocllnhfaaW.PrintLast
set_option linter.unusedSimpArgs false

namespace FnExactIsRingParts
theorem rd_get (x : List Int) (i : Int) (h0 : 0 ≤ i) (h : i < (x.length : Int)) : x[i.toNat]? = some (rd x i) := by
  unfold rd
  rw [List.getD_eq_getElem?_getD, List.getElem?_eq_getElem (by omega)]
  rfl

theorem wrap_up {i : Int} {n : Nat} (h0 : 0 ≤ i) (h : i < (n : Int)) (hn : n ≤ 140737488351232) : wrap64 (i + 1) = i + 1 := by
  unfold wrap64; omega

theorem copy_loop (x0 : List Int) (hn : x0.length ≤ 140737488351232) (d : Nat) : ∀ (k : Nat) (x3 : List Int) (i : Int), 0 ≤ i → (x0.length : Int) - i = d → x3.length = x0.length →
    (∀ j : Nat, (j : Int) < i → x3[j]? = x0[j]?) → d < k → laws_toInt64S.l0 k x0 x3 i = some x0 := by
  induction d with
  | zero =>
    intro k x3 i h0 hd hl hj hk
    obtain ⟨k, rfl⟩ : ∃ m, k = m + 1 := ⟨k - 1, by omega⟩
    simp only [laws_toInt64S.l0]
    rw [if_neg (by omega)]
    congr 1
    apply List.ext_getElem?
    intro j
    by_cases h : (j : Int) < i
    · exact hj j h
    · rw [List.getElem?_eq_none (by omega), List.getElem?_eq_none (by omega)]
  | succ d ih =>
    intro k x3 i h0 hd hl hj hk
    obtain ⟨k, rfl⟩ : ∃ m, k = m + 1 := ⟨k - 1, by omega⟩
    simp only [laws_toInt64S.l0]
    rw [if_pos (by omega), if_pos h0, if_pos (by omega), wrap_up (n := x0.length) h0 (by omega) hn]
    refine ih k _ (i + 1) (by omega) (by omega) (by simpa using hl) ?_ (by omega)
    intro j hlt
    rw [List.getElem?_set]
    by_cases h : i.toNat = j
    · subst h
      rw [if_pos rfl, if_pos (by omega), rd_get x0 i h0 (by omega)]
    · rw [if_neg h]
      exact hj j (by omega)

theorem copy_f (x0 : List Int) (hn : x0.length * 8 ≤ 140737488351232) (k : Nat) (hk : x0.length < k) : laws_toInt64S.f k x0 = some x0 := by
  unfold laws_toInt64S.f
  rw [if_pos (by omega), if_pos (by omega)]
  exact copy_loop x0 (by omega) x0.length k _ 0 (by omega) (by omega) (by simp) (by intro j h; omega) hk

theorem eq_loop (x0 : List Int) (hn : x0.length ≤ 140737488351232) (d : Nat) : ∀ (k : Nat) (i : Int), 0 ≤ i → (x0.length : Int) - i = d → d < k → laws_eqInt64S.l0 k x0 x0 i = some true := by
  induction d with
  | zero =>
    intro k i h0 hd hk
    obtain ⟨k, rfl⟩ : ∃ m, k = m + 1 := ⟨k - 1, by omega⟩
    simp only [laws_eqInt64S.l0]
    rw [if_neg (by omega)]
  | succ d ih =>
    intro k i h0 hd hk
    obtain ⟨k, rfl⟩ : ∃ m, k = m + 1 := ⟨k - 1, by omega⟩
    simp only [laws_eqInt64S.l0]
    rw [if_pos (by omega), if_pos h0, if_pos (by omega), if_pos trivial, show wrap64 (i + 1) = i + 1 by unfold wrap64; omega]
    exact ih k (i + 1) (by omega) (by omega) (by omega)

theorem eq_f (x0 : List Int) (hn : x0.length ≤ 140737488351232) (k : Nat) (hk : x0.length < k) : laws_eqInt64S.f k x0 x0 = some true := by
  unfold laws_eqInt64S.f
  rw [if_pos rfl]
  exact eq_loop x0 hn x0.length k 0 (by omega) (by omega) hk

theorem in_f (a b c : Int) : spec_l00In.f a b c = some (decide (b ≤ a ∧ a ≤ c)) := by
  unfold spec_l00In.f
  by_cases h : a ≥ b
  · rw [if_pos h]; simp; omega
  · rw [if_neg h]; simp; omega

theorem within_f (a b c : Int) : impl_within.f a b c = some (decide (b ≤ a ∧ a ≤ c)) := by
  unfold impl_within.f
  by_cases h : a ≥ b
  · rw [if_pos h]; simp; omega
  · rw [if_neg h]; simp; omega

theorem ring_loops (x : List Int) (hn : x.length ≤ 140737488351232) (s t : Int) (hs : t = wrap64 (s - 1)) (d : Nat) : ∀ (k : Nat) (i : Int), 0 ≤ i → (x.length : Int) - i = d → d < k →
    ∃ r : Bool, impl_areWithin.l0 k 0 t x x.length i = some r ∧ spec_l02Ring.l0 k x s i = some (r && decide (1 ≤ x.length ∧ x.length ≤ 64)) := by
  induction d with
  | zero =>
    intro k i h0 hd hk
    obtain ⟨k, rfl⟩ : ∃ m, k = m + 1 := ⟨k - 1, by omega⟩
    simp only [impl_areWithin.l0, spec_l02Ring.l0]
    simp only [if_neg (show ¬ i < (x.length : Int) by omega)]
    refine ⟨true, rfl, ?_⟩
    rw [Bool.true_and]
    by_cases h : (x.length : Int) ≥ 1
    · rw [if_pos h]; congr 1; rw [decide_eq_decide]; omega
    · rw [if_neg h]; congr 1; exact (decide_eq_false (by omega)).symm
  | succ d ih =>
    intro k i h0 hd hk
    obtain ⟨k, rfl⟩ : ∃ m, k = m + 1 := ⟨k - 1, by omega⟩
    have hlt : i < (x.length : Int) := by omega
    simp only [impl_areWithin.l0, spec_l02Ring.l0, if_pos hlt, if_pos h0, in_f, within_f, Option.bind_some, ← hs, show wrap64 (i + 1) = i + 1 by unfold wrap64; omega]
    by_cases hin : 0 ≤ rd x i ∧ rd x i ≤ t
    · simp only [hin, and_self, decide_true, if_true]
      exact ih k (i + 1) (by omega) (by omega) (by omega)
    · simp only [hin, decide_false, Bool.false_eq_true, if_false]
      exact ⟨false, rfl, rfl⟩

def ringB (x : List Int) (s : Int) : Option Bool := spec_IsRing.f (x.length + 1) x s

theorem isRing_same (x : List Int) (hn : x.length ≤ 140737488351232) (s : Int) (k : Nat) (hk : x.length < k) :
    ∃ r : Bool, spec_IsRing.f k x s = some r ∧ impl_IsRing.f k x s = some r ∧ (r = true → (s = 2 ∨ s = 3) ∧ 1 ≤ x.length ∧ x.length ≤ 64) := by
  obtain ⟨r, h1, h2⟩ := ring_loops x hn s (wrap64 (s - 1)) rfl x.length k 0 (by omega) (by omega) hk
  unfold spec_IsRing.f impl_IsRing.f impl_areStates.f impl_areMany.f impl_areWithin.f spec_l02Ring.f
  rw [h1, h2]
  simp only [in_f, within_f, Option.bind_some]
  by_cases hs : s = 2 ∨ s = 3
  · have e1 : (2 ≤ s ∧ s ≤ 3) := by omega
    have e2 : (if s = 2 then some true else some (s == 3)) = some true := by
      rcases hs with rfl | rfl <;> rfl
    by_cases hl : (1 : Int) ≤ x.length ∧ (x.length : Int) ≤ 64
    · refine ⟨r, ?_, ?_, fun _ => ⟨hs, by omega, by omega⟩⟩
      · have : 1 ≤ x.length ∧ x.length ≤ 64 := by omega
        simp [e1, this]
      · rw [e2]; simp [hl]
    · refine ⟨false, ?_, ?_, fun h => by cases h⟩
      · have : ¬ (1 ≤ x.length ∧ x.length ≤ 64) := by omega
        simp [e1, this]
      · rw [e2]
        have : decide ((1 : Int) ≤ x.length ∧ (x.length : Int) ≤ 64) = false := by simpa using hl
        simp only [this, Option.bind_some, Bool.false_eq_true, if_false, if_true]
  · refine ⟨false, ?_, ?_, fun h => by cases h⟩
    · have : decide (2 ≤ s ∧ s ≤ 3) = false := by simp; omega
      simp only [this, Bool.false_eq_true, if_false]
    · have h2 : ¬ s = 2 := by omega
      have h3 : (s == 3) = false := by simp; omega
      simp only [if_neg h2, h3, Option.bind_some, Bool.false_eq_true, if_false]

end FnExactIsRingParts
open FnExactIsRingParts

theorem FnExactIsRing : laws_FnExactIsRing.Pure := by
  intro l s _ hl _ _
  refine ⟨l.length + 1, ?_⟩
  obtain ⟨r, h1, h2, -⟩ := isRing_same l (by omega) s (l.length + 1) (by omega)
  unfold laws_FnExactIsRing.f
  by_cases hb : (l.length : Int) > 1048576
  · rw [if_pos hb]
  · rw [if_neg hb, copy_f l (by omega) _ (by omega)]
    simp only [Option.bind_some, h1, h2, eq_f l (by omega) _ (show l.length < l.length + 1 by omega)]
    simp

end Go.Proofs.Ytcigmgocllnhfaa.Pure
