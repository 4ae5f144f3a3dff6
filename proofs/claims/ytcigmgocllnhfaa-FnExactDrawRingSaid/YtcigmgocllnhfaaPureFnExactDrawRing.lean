/- The plain law of FnExactDrawRing, over the printed functions: program and reference answer alike. No condition beyond the stated bounds. -/
import Derived.Test.YtcigmgocllnhfaaPFnExactDrawRingx2
namespace Go.Proofs.Ytcigmgocllnhfaa.Pure
open Go.RowKit Go.Proofs.Ytcigmgocllnhfaa.PFnExactDrawRing Go.Proofs.YtcigmgocllnhfaaW.PrintWords Go.Proofs.YtcigmgocllnhfaaW.PrintLast
set_option linter.unusedSimpArgs false

namespace FnExactDrawRingParts
theorem eq_loop (x0 : List Int) (hn : x0.length ≤ 140737488351232) (d : Nat) : ∀ (k : Nat) (i : Int), 0 ≤ i → (x0.length : Int) - i = d → d < k → laws_eqInt64S.l0 k x0 x0 i = some true := by
  induction d with
  | zero =>
    intro k i h0 hd hk
    obtain ⟨k, rfl⟩ : ∃ m, k = m + 1 := ⟨k - 1, by omega⟩
    simp only [laws_eqInt64S.l0]
    rw [if_neg (by omega)]
  | succ d ih =>
    intro k i h0 hd hk
    obtain ⟨k, rfl⟩ : ∃ m, k = m + 1 := ⟨k - 1, by omega⟩
    simp only [laws_eqInt64S.l0]
    rw [if_pos (by omega), if_pos h0, if_pos (by omega), if_pos trivial, show wrap64 (i + 1) = i + 1 by unfold wrap64; omega]
    exact ih k (i + 1) (by omega) (by omega) (by omega)

theorem eq_f (x0 : List Int) (hn : x0.length ≤ 140737488351232) (k : Nat) (hk : x0.length < k) : laws_eqInt64S.f k x0 x0 = some true := by
  unfold laws_eqInt64S.f
  rw [if_pos rfl]
  exact eq_loop x0 hn x0.length k 0 (by omega) (by omega) hk

/-- What marking leaves: a, a + 1, .. -/
def Marked (a : Int) (x : List Int) : Prop := ∀ j : Nat, j < x.length → x[j]? = some (a + j)

theorem mark_loop (n : Nat) (hn : n ≤ 140737488351232) (d : Nat) : ∀ (k : Nat) (x : List Int) (i a : Int), 0 ≤ i → x.length = n → (n : Int) - i = d → a = 1 + i →
    (∀ j : Nat, (j : Int) < i → x[j]? = some (1 + (j : Int))) → d < k → ∃ y, laws_markInt64S.l0 k x a i = some (1 + (n : Int), y) ∧ y.length = n ∧ Marked 1 y := by
  induction d with
  | zero =>
    intro k x i a h0 hl hd ha hj hk
    obtain ⟨k, rfl⟩ : ∃ m, k = m + 1 := ⟨k - 1, by omega⟩
    simp only [laws_markInt64S.l0]
    rw [if_neg (by omega)]
    exact ⟨x, by rw [show a = 1 + (n : Int) by omega], hl, fun j h => hj j (by omega)⟩
  | succ d ih =>
    intro k x i a h0 hl hd ha hj hk
    obtain ⟨k, rfl⟩ : ∃ m, k = m + 1 := ⟨k - 1, by omega⟩
    simp only [laws_markInt64S.l0]
    rw [if_pos (by omega), if_pos h0, show wrap64 (i + 1) = i + 1 by unfold wrap64; omega, show wrap64 (a + 1) = a + 1 by unfold wrap64; omega]
    refine ih k _ (i + 1) (a + 1) (by omega) (by simpa using hl) (by omega) (by omega) ?_ (by omega)
    intro j hlt
    rw [List.getElem?_set]
    by_cases h : i.toNat = j
    · subst h
      rw [if_pos rfl, if_pos (by omega)]
      congr 1; omega
    · rw [if_neg h]
      exact hj j (by omega)

theorem mark_f (x : List Int) (hn : x.length ≤ 140737488351232) (k : Nat) (hk : x.length < k) : ∃ y, laws_markInt64S.f k x 1 = some (1 + (x.length : Int), y) ∧ y.length = x.length ∧ Marked 1 y := by
  unfold laws_markInt64S.f
  exact mark_loop x.length hn x.length k x 0 1 (by omega) rfl (by omega) (by omega) (by intro j h; omega) hk

theorem held_loop (x : List Int) (hn : x.length ≤ 140737488351232) (hm : Marked 1 x) (d : Nat) : ∀ (k : Nat) (i a : Int), 0 ≤ i → (x.length : Int) - i = d → a = 1 + i → d < k →
    laws_heldInt64S.l0 k x a i = some (1 + (x.length : Int)) := by
  induction d with
  | zero =>
    intro k i a h0 hd ha hk
    obtain ⟨k, rfl⟩ : ∃ m, k = m + 1 := ⟨k - 1, by omega⟩
    simp only [laws_heldInt64S.l0]
    rw [if_neg (by omega)]
    congr 1; omega
  | succ d ih =>
    intro k i a h0 hd ha hk
    obtain ⟨k, rfl⟩ : ∃ m, k = m + 1 := ⟨k - 1, by omega⟩
    simp only [laws_heldInt64S.l0]
    have hr : rd x i = a := by
      have h1 := hm i.toNat (by omega)
      unfold rd
      rw [List.getD_eq_getElem?_getD, h1]
      simp; omega
    rw [if_pos (by omega), if_pos h0, if_pos hr, show wrap64 (i + 1) = i + 1 by unfold wrap64; omega, show wrap64 (a + 1) = a + 1 by unfold wrap64; omega]
    exact ih k (i + 1) (a + 1) (by omega) (by omega) (by omega) (by omega)

theorem held_f (x : List Int) (hn : x.length ≤ 140737488351232) (hm : Marked 1 x) (k : Nat) (hk : x.length < k) : laws_heldInt64S.f k x 1 = some (1 + (x.length : Int)) := by
  unfold laws_heldInt64S.f
  exact held_loop x hn hm x.length k 0 1 (by omega) (by omega) (by omega) hk

theorem in_f (a b c : Int) : spec_l00In.f a b c = some (decide (b ≤ a ∧ a ≤ c)) := by
  unfold spec_l00In.f
  by_cases h : a ≥ b
  · rw [if_pos h]; simp; omega
  · rw [if_neg h]; simp; omega

theorem within_f (a b c : Int) : impl_within.f a b c = some (decide (b ≤ a ∧ a ≤ c)) := by
  unfold impl_within.f
  by_cases h : a ≥ b
  · rw [if_pos h]; simp; omega
  · rw [if_neg h]; simp; omega


end FnExactDrawRingParts
open FnExactDrawRingParts

theorem draw_loops (s : Int) (d : Nat) : ∀ (k : Nat) (n t z w : Int) (x : List Int), n = d → z - t = n → 0 ≤ t → z ≤ 64 → x.length + d ≤ 64 → d < k →
    ∃ (y : List Int) (v : Int), spec_DrawRing.l0 k s n w x = some (y, v, true) ∧ impl_DrawRing.l0 k s w x z t = some (y, v, true) ∧ y.length ≤ 64 := by
  induction d with
  | zero =>
    intro k n t z w x hn hz ht hz2 hx hk
    obtain ⟨k, rfl⟩ : ∃ m, k = m + 1 := ⟨k - 1, by omega⟩
    simp only [spec_DrawRing.l0, impl_DrawRing.l0]
    rw [if_neg (by omega), if_neg (by omega)]
    exact ⟨x, w, rfl, rfl, by omega⟩
  | succ d ih =>
    intro k n t z w x hn hz ht hz2 hx hk
    obtain ⟨k, rfl⟩ : ∃ m, k = m + 1 := ⟨k - 1, by omega⟩
    simp only [spec_DrawRing.l0, impl_DrawRing.l0, impl_nextSeed.f, Option.bind_some]
    rw [if_pos (by omega), if_pos (by omega), if_pos (by omega), if_pos (by omega), show wrap64 (n - 1) = n - 1 by unfold wrap64; omega, show wrap64 (t + 1) = t + 1 by unfold wrap64; omega]
    exact ih k (n - 1) (t + 1) z _ _ (by omega) (by omega) (by omega) hz2 (by simp; omega) (by omega)

theorem draw_same (a n w : Int) : ∃ (y : List Int) (v : Int) (b : Bool), (∀ k, 70 < k → spec_DrawRing.f k a n w = some (y, v, b)) ∧ (∀ k, 70 < k → impl_DrawRing.f k a n w = some (y, v, b)) ∧ y.length ≤ 64 := by
  by_cases ha : 2 ≤ a ∧ a ≤ 3
  · have ea : impl_areStates.f a = some true := by
      unfold impl_areStates.f
      by_cases h2 : a = 2
      · rw [if_pos h2]
      · rw [if_neg h2]; have : a = 3 := by omega
        subst this; rfl
    by_cases hn : 1 ≤ n ∧ n ≤ 64
    · by_cases hw : 0 ≤ w ∧ w ≤ 4294967295
      · have key : ∀ k, 69 < k → ∃ (y : List Int) (v : Int), spec_DrawRing.l0 k a n w [] = some (y, v, true) ∧ impl_DrawRing.l0 k a w [] n 0 = some (y, v, true) ∧ y.length ≤ 64 :=
          fun k hk => draw_loops a n.toNat k n 0 n w [] (by omega) (by omega) (by omega) (by omega) (by simp; omega) (by omega)
        obtain ⟨y, v, h1, h2, hl⟩ := key 70 (by omega)
        refine ⟨y, v, true, fun k hk => ?_, fun k hk => ?_, hl⟩
        · obtain ⟨k, rfl⟩ : ∃ m, k = m + 1 := ⟨k - 1, by omega⟩
          unfold spec_DrawRing.f
          simp only [in_f, ha, hn, hw, and_self, decide_true, Option.bind_some, if_true, Bool.not_true, spec_DrawRing.j0, Bool.false_eq_true, if_false]
          exact at_rounds (g := fun k => spec_DrawRing.l0 k a n w []) (fun k => (spec_DrawRing.mono_l k).2 _ _ _ _) (show 70 ≤ k by omega) h1
        · obtain ⟨k, rfl⟩ : ∃ m, k = m + 1 := ⟨k - 1, by omega⟩
          unfold impl_DrawRing.f impl_isSeed.f
          simp only [within_f, ea, hn, hw, and_self, decide_true, Option.bind_some, if_true, Bool.not_true, impl_DrawRing.j0, Bool.false_eq_true, if_false]
          exact at_rounds (g := fun k => impl_DrawRing.l0 k a w [] n 0) (fun k => (impl_DrawRing.mono_l k).2 _ _ _ _ _) (show 70 ≤ k by omega) h2
      · refine ⟨[], 0, false, fun k hk => ?_, fun k hk => ?_, by simp⟩ <;> obtain ⟨k, rfl⟩ : ∃ m, k = m + 1 := ⟨k - 1, by omega⟩
        · unfold spec_DrawRing.f
          simp only [in_f, ha, hn, hw, and_self, decide_true, decide_false, Option.bind_some, if_true, Bool.not_false, spec_DrawRing.j0]
        · unfold impl_DrawRing.f impl_isSeed.f
          simp only [within_f, ea, hn, hw, and_self, decide_true, decide_false, Option.bind_some, if_true, Bool.not_false, impl_DrawRing.j0]
    · refine ⟨[], 0, false, fun k hk => ?_, fun k hk => ?_, by simp⟩ <;> obtain ⟨k, rfl⟩ : ∃ m, k = m + 1 := ⟨k - 1, by omega⟩
      · unfold spec_DrawRing.f
        simp only [in_f, ha, hn, and_self, decide_true, decide_false, Option.bind_some, if_true, Bool.false_eq_true, if_false, spec_DrawRing.j0]
      · unfold impl_DrawRing.f
        simp only [within_f, ea, hn, decide_false, Option.bind_some, if_true, Bool.false_eq_true, if_false, impl_DrawRing.j0]
  · have ea : impl_areStates.f a = some false := by
      unfold impl_areStates.f
      rw [if_neg (by omega)]
      have : (a == 3) = false := by simp; omega
      rw [this]
    refine ⟨[], 0, false, fun k hk => ?_, fun k hk => ?_, by simp⟩ <;> obtain ⟨k, rfl⟩ : ∃ m, k = m + 1 := ⟨k - 1, by omega⟩
    · unfold spec_DrawRing.f
      simp only [in_f, ha, decide_false, Option.bind_some, if_true, Bool.false_eq_true, if_false, spec_DrawRing.j0]
    · unfold impl_DrawRing.f
      simp only [ea, Option.bind_some, if_true, Bool.false_eq_true, if_false, impl_DrawRing.j0]

theorem FnExactDrawRing : laws_FnExactDrawRing.Pure := by
  intro a n w _ _ _
  obtain ⟨y, v, b, h1, h2, hl⟩ := draw_same a n w
  refine ⟨103, ?_⟩
  unfold laws_FnExactDrawRing.f
  obtain ⟨m, hm1, hm2, hm3⟩ := mark_f y (by omega) 102 (by omega)
  have hb : (b != b) = false := by cases b <;> rfl
  have hh := held_f m (by omega) hm3 102 (by omega)
  have hh' := held_f m (by omega) hm3 101 (by omega)
  rw [hm2] at hh hh'
  simp only [h1 103 (by omega), h2 103 (by omega), Option.bind_some, eq_f y (by omega) 103 (by omega), if_true, laws_FnExactDrawRing.j0, hb, Bool.false_eq_true, if_false, hm1, hh]
  rw [if_neg (by omega), h2 102 (by omega)]
  simp only [Option.bind_some, eq_f y (by omega) 102 (by omega), if_true, laws_FnExactDrawRing.j1, hb, Bool.false_eq_true, if_false, hh']
  rw [if_neg (by omega)]

end Go.Proofs.Ytcigmgocllnhfaa.Pure
