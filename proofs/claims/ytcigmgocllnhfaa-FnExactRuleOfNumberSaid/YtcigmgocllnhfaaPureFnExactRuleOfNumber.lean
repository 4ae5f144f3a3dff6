/- The plain law of FnExactRuleOfNumber, over the printed functions: program and reference answer alike. No condition beyond the stated bounds. -/
import Derived.Test.YtcigmgocllnhfaaPFnExactRuleOfNumberx2
namespace Go.Proofs.Ytcigmgocllnhfaa.Pure
open Go.RowKit Go.Proofs.Ytcigmgocllnhfaa.PFnExactRuleOfNumber Go.Proofs.YtcigmgocllnhfaaW.PrintWords Go.Proofs.YtcigmgocllnhfaaW.PrintLast
set_option linter.unusedSimpArgs false

namespace FnExactRuleOfNumberParts
theorem eq_loop (x0 : List Int) (hn : x0.length ≤ 140737488351232) (d : Nat) : ∀ (k : Nat) (i : Int), 0 ≤ i → (x0.length : Int) - i = d → d < k → laws_eqInt64S.l0 k x0 x0 i = some true := by
  induction d with
  | zero =>
    intro k i h0 hd hk
    obtain ⟨k, rfl⟩ : ∃ m, k = m + 1 := ⟨k - 1, by omega⟩
    simp only [laws_eqInt64S.l0]
    rw [if_neg (by omega)]
  | succ d ih =>
    intro k i h0 hd hk
    obtain ⟨k, rfl⟩ : ∃ m, k = m + 1 := ⟨k - 1, by omega⟩
    simp only [laws_eqInt64S.l0]
    rw [if_pos (by omega), if_pos h0, if_pos (by omega), if_pos trivial, show wrap64 (i + 1) = i + 1 by unfold wrap64; omega]
    exact ih k (i + 1) (by omega) (by omega) (by omega)

theorem eq_f (x0 : List Int) (hn : x0.length ≤ 140737488351232) (k : Nat) (hk : x0.length < k) : laws_eqInt64S.f k x0 x0 = some true := by
  unfold laws_eqInt64S.f
  rw [if_pos rfl]
  exact eq_loop x0 hn x0.length k 0 (by omega) (by omega) hk

/-- What marking leaves: a, a + 1, .. -/
def Marked (a : Int) (x : List Int) : Prop := ∀ j : Nat, j < x.length → x[j]? = some (a + j)

theorem mark_loop (n : Nat) (hn : n ≤ 140737488351232) (d : Nat) : ∀ (k : Nat) (x : List Int) (i a : Int), 0 ≤ i → x.length = n → (n : Int) - i = d → a = 1 + i →
    (∀ j : Nat, (j : Int) < i → x[j]? = some (1 + (j : Int))) → d < k → ∃ y, laws_markInt64S.l0 k x a i = some (1 + (n : Int), y) ∧ y.length = n ∧ Marked 1 y := by
  induction d with
  | zero =>
    intro k x i a h0 hl hd ha hj hk
    obtain ⟨k, rfl⟩ : ∃ m, k = m + 1 := ⟨k - 1, by omega⟩
    simp only [laws_markInt64S.l0]
    rw [if_neg (by omega)]
    exact ⟨x, by rw [show a = 1 + (n : Int) by omega], hl, fun j h => hj j (by omega)⟩
  | succ d ih =>
    intro k x i a h0 hl hd ha hj hk
    obtain ⟨k, rfl⟩ : ∃ m, k = m + 1 := ⟨k - 1, by omega⟩
    simp only [laws_markInt64S.l0]
    rw [if_pos (by omega), if_pos h0, show wrap64 (i + 1) = i + 1 by unfold wrap64; omega, show wrap64 (a + 1) = a + 1 by unfold wrap64; omega]
    refine ih k _ (i + 1) (a + 1) (by omega) (by simpa using hl) (by omega) (by omega) ?_ (by omega)
    intro j hlt
    rw [List.getElem?_set]
    by_cases h : i.toNat = j
    · subst h
      rw [if_pos rfl, if_pos (by omega)]
      congr 1; omega
    · rw [if_neg h]
      exact hj j (by omega)

theorem mark_f (x : List Int) (hn : x.length ≤ 140737488351232) (k : Nat) (hk : x.length < k) : ∃ y, laws_markInt64S.f k x 1 = some (1 + (x.length : Int), y) ∧ y.length = x.length ∧ Marked 1 y := by
  unfold laws_markInt64S.f
  exact mark_loop x.length hn x.length k x 0 1 (by omega) rfl (by omega) (by omega) (by intro j h; omega) hk

theorem held_loop (x : List Int) (hn : x.length ≤ 140737488351232) (hm : Marked 1 x) (d : Nat) : ∀ (k : Nat) (i a : Int), 0 ≤ i → (x.length : Int) - i = d → a = 1 + i → d < k →
    laws_heldInt64S.l0 k x a i = some (1 + (x.length : Int)) := by
  induction d with
  | zero =>
    intro k i a h0 hd ha hk
    obtain ⟨k, rfl⟩ : ∃ m, k = m + 1 := ⟨k - 1, by omega⟩
    simp only [laws_heldInt64S.l0]
    rw [if_neg (by omega)]
    congr 1; omega
  | succ d ih =>
    intro k i a h0 hd ha hk
    obtain ⟨k, rfl⟩ : ∃ m, k = m + 1 := ⟨k - 1, by omega⟩
    simp only [laws_heldInt64S.l0]
    have hr : rd x i = a := by
      have h1 := hm i.toNat (by omega)
      unfold rd
      rw [List.getD_eq_getElem?_getD, h1]
      simp; omega
    rw [if_pos (by omega), if_pos h0, if_pos hr, show wrap64 (i + 1) = i + 1 by unfold wrap64; omega, show wrap64 (a + 1) = a + 1 by unfold wrap64; omega]
    exact ih k (i + 1) (a + 1) (by omega) (by omega) (by omega) (by omega)

theorem held_f (x : List Int) (hn : x.length ≤ 140737488351232) (hm : Marked 1 x) (k : Nat) (hk : x.length < k) : laws_heldInt64S.f k x 1 = some (1 + (x.length : Int)) := by
  unfold laws_heldInt64S.f
  exact held_loop x hn hm x.length k 0 1 (by omega) (by omega) (by omega) hk

theorem in_f (a b c : Int) : spec_l00In.f a b c = some (decide (b ≤ a ∧ a ≤ c)) := by
  unfold spec_l00In.f
  by_cases h : a ≥ b
  · rw [if_pos h]; simp; omega
  · rw [if_neg h]; simp; omega

theorem within_f (a b c : Int) : impl_within.f a b c = some (decide (b ≤ a ∧ a ≤ c)) := by
  unfold impl_within.f
  by_cases h : a ≥ b
  · rw [if_pos h]; simp; omega
  · rw [if_neg h]; simp; omega


theorem eqRule_f (s r : Int) (x : List Int) (hn : x.length ≤ 140737488351232) (k : Nat) (hk : x.length < k) : laws_eqRule.f k s r x s r x = some true := by
  unfold laws_eqRule.f
  rw [if_pos rfl, if_pos rfl, eq_f x hn k hk]
  rfl

theorem markRule_f (s r : Int) (x : List Int) (hn : x.length ≤ 140737488351232) (k : Nat) (hk : x.length < k) : ∃ y, laws_markRule.f k s r x 1 = some (1 + (x.length : Int), y) ∧ y.length = x.length ∧ Marked 1 y := by
  obtain ⟨y, h1, h2, h3⟩ := mark_f x hn k hk
  refine ⟨y, ?_, h2, h3⟩
  unfold laws_markRule.f
  rw [h1]
  rfl

theorem heldRule_f (s r : Int) (x : List Int) (hn : x.length ≤ 140737488351232) (hm : Marked 1 x) (k : Nat) (hk : x.length < k) : laws_heldRule.f k s r x 1 = some (1 + (x.length : Int)) := by
  unfold laws_heldRule.f
  rw [held_f x hn hm k hk]
  simp only [Option.bind_some]
  rw [if_neg (by omega)]

end FnExactRuleOfNumberParts
open FnExactRuleOfNumberParts

theorem u64_small {i : Int} (h0 : 0 ≤ i) (h : i < 8) : IntKind.u64.wrap i = i := by
  have : i = 0 ∨ i = 1 ∨ i = 2 ∨ i = 3 ∨ i = 4 ∨ i = 5 ∨ i = 6 ∨ i = 7 := by omega
  rcases this with rfl | rfl | rfl | rfl | rfl | rfl | rfl | rfl <;> decide

theorem rule_loops (n : Int) (d : Nat) : ∀ (k : Nat) (i : Int) (x : List Int), 0 ≤ i → 8 - i = d → x.length + d ≤ 8 → d < k →
    ∃ y, spec_RuleOfNumber.l0 k n i 2 1 x = some (2, 1, y, true) ∧ impl_RuleOfNumber.l0 k n i 2 1 x = some (2, 1, y, true) ∧ y.length ≤ 8 := by
  induction d with
  | zero =>
    intro k i x h0 hi hx hk
    obtain ⟨k, rfl⟩ : ∃ m, k = m + 1 := ⟨k - 1, by omega⟩
    simp only [spec_RuleOfNumber.l0, impl_RuleOfNumber.l0]
    simp only [if_neg (show ¬ i < 8 by omega)]
    exact ⟨x, rfl, rfl, by omega⟩
  | succ d ih =>
    intro k i x h0 hi hx hk
    obtain ⟨k, rfl⟩ : ∃ m, k = m + 1 := ⟨k - 1, by omega⟩
    simp only [spec_RuleOfNumber.l0, impl_RuleOfNumber.l0, u64_small h0 (show i < 8 by omega), if_pos (show i < 8 by omega), if_pos h0, if_pos (show x.length < 17592186044416 by omega), show wrap64 (i + 1) = i + 1 by unfold wrap64; omega]
    exact ih k (i + 1) _ (by omega) (by omega) (by simp; omega) (by omega)

theorem rule_same (n : Int) (k : Nat) (hk : 9 < k) : ∃ (s r : Int) (y : List Int) (b : Bool), spec_RuleOfNumber.f k n = some (s, r, y, b) ∧ impl_RuleOfNumber.f k n = some (s, r, y, b) ∧ y.length ≤ 8 := by
  unfold spec_RuleOfNumber.f impl_RuleOfNumber.f
  rw [in_f, within_f]
  simp only [Option.bind_some]
  by_cases h : 0 ≤ n ∧ n ≤ 255
  · obtain ⟨y, h1, h2, h3⟩ := rule_loops n 8 k 0 [] (by omega) (by omega) (by simp) (by omega)
    simp only [h, and_self, decide_true, if_true]
    exact ⟨_, _, _, _, h1, h2, h3⟩
  · simp only [h, decide_false, Bool.false_eq_true, if_false]
    exact ⟨_, _, _, _, rfl, rfl, by simp⟩

theorem FnExactRuleOfNumber : laws_FnExactRuleOfNumber.Pure := by
  intro n _
  obtain ⟨s, r, y, b, h1, h2, hl⟩ := rule_same n 22 (by omega)
  obtain ⟨s', r', y', b', h1', h2', hl'⟩ := rule_same n 21 (by omega)
  have e := at_rounds (fun k => spec_RuleOfNumber.mono n k) (show 21 ≤ 22 by omega) h1'
  rw [h1] at e
  obtain ⟨rfl, rfl, rfl, rfl⟩ : s = s' ∧ r = r' ∧ y = y' ∧ b = b' := by simpa using e
  refine ⟨22, ?_⟩
  unfold laws_FnExactRuleOfNumber.f
  obtain ⟨m, hm1, hm2, hm3⟩ := markRule_f s r y (by omega) 21 (by omega)
  have hb : (b != b) = false := by cases b <;> rfl
  have hh := heldRule_f s r m (by omega) hm3 21 (by omega)
  have hh' := heldRule_f s r m (by omega) hm3 20 (by omega)
  rw [hm2] at hh hh'
  simp only [h1, h2, Option.bind_some, eqRule_f s r y (by omega) 22 (by omega), if_true, laws_FnExactRuleOfNumber.j0, hb, Bool.false_eq_true, if_false, hm1, hh]
  rw [if_neg (by omega), h2']
  simp only [Option.bind_some, eqRule_f s r y (by omega) 21 (by omega), if_true, laws_FnExactRuleOfNumber.j1, hb, Bool.false_eq_true, if_false, hh']
  rw [if_neg (by omega)]

end Go.Proofs.Ytcigmgocllnhfaa.Pure
