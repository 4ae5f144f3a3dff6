/- The plain law of FnExactActiveShare, over the functions beside: program and reference answer alike. No condition beyond the stated bounds. -/
import Derived.Test.YtcigmgocllnhfaaQFnExactActiveSharex3
namespace Go.Proofs.Ytcigmgocllnhfaa.Pure
open Go.RowKit Go.Proofs.Ytcigmgocllnhfaa.QFnExactActiveShare Go.Proofs.YtcigmgocllnhfaaW.PrintWords Go.Proofs.YtcigmgocllnhfaaW.PrintLast
set_option linter.unusedSimpArgs false
set_option linter.unusedVariables false

namespace FnExactActiveShareParts
theorem eq_loop (x0 : List Int) (hn : x0.length ≤ 140737488351232) (d : Nat) : ∀ (k : Nat) (i : Int), 0 ≤ i → (x0.length : Int) - i = d → d < k → laws_eqInt64S.l0 k x0 x0 i = some true := by
  induction d with
  | zero =>
    intro k i h0 hd hk
    obtain ⟨k, rfl⟩ : ∃ m, k = m + 1 := ⟨k - 1, by omega⟩
    simp only [laws_eqInt64S.l0]
    rw [if_neg (by omega)]
  | succ d ih =>
    intro k i h0 hd hk
    obtain ⟨k, rfl⟩ : ∃ m, k = m + 1 := ⟨k - 1, by omega⟩
    simp only [laws_eqInt64S.l0]
    rw [if_pos (by omega), if_pos h0, if_pos (by omega), if_pos trivial, show wrap64 (i + 1) = i + 1 by unfold wrap64; omega]
    exact ih k (i + 1) (by omega) (by omega) (by omega)

theorem eq_f (x0 : List Int) (hn : x0.length ≤ 140737488351232) (k : Nat) (hk : x0.length < k) : laws_eqInt64S.f k x0 x0 = some true := by
  unfold laws_eqInt64S.f
  rw [if_pos rfl]
  exact eq_loop x0 hn x0.length k 0 (by omega) (by omega) hk

theorem rd_get (x : List Int) (i : Int) (h0 : 0 ≤ i) (h : i < (x.length : Int)) : x[i.toNat]? = some (rd x i) := by
  unfold rd
  rw [List.getD_eq_getElem?_getD, List.getElem?_eq_getElem (by omega)]
  rfl

theorem wrap_up {i : Int} {n : Nat} (h0 : 0 ≤ i) (h : i < (n : Int)) (hn : n ≤ 140737488351232) : wrap64 (i + 1) = i + 1 := by
  unfold wrap64; omega

theorem copy_loop (x0 : List Int) (hn : x0.length ≤ 140737488351232) (d : Nat) : ∀ (k : Nat) (x3 : List Int) (i : Int), 0 ≤ i → (x0.length : Int) - i = d → x3.length = x0.length →
    (∀ j : Nat, (j : Int) < i → x3[j]? = x0[j]?) → d < k → laws_toInt64S.l0 k x0 x3 i = some x0 := by
  induction d with
  | zero =>
    intro k x3 i h0 hd hl hj hk
    obtain ⟨k, rfl⟩ : ∃ m, k = m + 1 := ⟨k - 1, by omega⟩
    simp only [laws_toInt64S.l0]
    rw [if_neg (by omega)]
    congr 1
    apply List.ext_getElem?
    intro j
    by_cases h : (j : Int) < i
    · exact hj j h
    · rw [List.getElem?_eq_none (by omega), List.getElem?_eq_none (by omega)]
  | succ d ih =>
    intro k x3 i h0 hd hl hj hk
    obtain ⟨k, rfl⟩ : ∃ m, k = m + 1 := ⟨k - 1, by omega⟩
    simp only [laws_toInt64S.l0]
    rw [if_pos (by omega), if_pos h0, if_pos (by omega), wrap_up (n := x0.length) h0 (by omega) hn]
    refine ih k _ (i + 1) (by omega) (by omega) (by simpa using hl) ?_ (by omega)
    intro j hlt
    rw [List.getElem?_set]
    by_cases h : i.toNat = j
    · subst h
      rw [if_pos rfl, if_pos (by omega), rd_get x0 i h0 (by omega)]
    · rw [if_neg h]
      exact hj j (by omega)

theorem copy_f (x0 : List Int) (hn : x0.length * 8 ≤ 140737488351232) (k : Nat) (hk : x0.length < k) : laws_toInt64S.f k x0 = some x0 := by
  unfold laws_toInt64S.f
  rw [if_pos (by omega), if_pos (by omega)]
  exact copy_loop x0 (by omega) x0.length k _ 0 (by omega) (by omega) (by simp) (by intro j h; omega) hk

theorem in_f (a b c : Int) : spec_l00In.f a b c = some (decide (b ≤ a ∧ a ≤ c)) := by
  unfold spec_l00In.f
  by_cases h : a ≥ b
  · rw [if_pos h]; simp; omega
  · rw [if_neg h]; simp; omega

theorem within_f (a b c : Int) : impl_within.f a b c = some (decide (b ≤ a ∧ a ≤ c)) := by
  unfold impl_within.f
  by_cases h : a ≥ b
  · rw [if_pos h]; simp; omega
  · rw [if_neg h]; simp; omega


open Go.Proofs.Ytcigmgocllnhfaa.Va in
theorem areWithin_f (x : List Int) (hn : x.length ≤ 140737488351232) (t : Int) (d : Nat) : ∀ (k : Nat) (i : Nat), x.length - i = d → i ≤ x.length → d < k →
    impl_areWithin.l0 k 0 (t - 1) x x.length (i : Int) = some (rowB t (x.drop i)) := by
  induction d with
  | zero =>
    intro k i hd hi hk
    obtain ⟨k, rfl⟩ : ∃ m, k = m + 1 := ⟨k - 1, by omega⟩
    simp only [impl_areWithin.l0]
    rw [if_neg (by omega), show i = x.length by omega, List.drop_length]
    rfl
  | succ d ih =>
    intro k i hd hi hk
    obtain ⟨k, rfl⟩ : ∃ m, k = m + 1 := ⟨k - 1, by omega⟩
    simp only [impl_areWithin.l0, if_pos (show (i : Int) < (x.length : Int) by omega), if_pos (show 0 ≤ (i : Int) by omega), within_f, Option.bind_some, show wrap64 ((i : Int) + 1) = ((i + 1 : Nat) : Int) by unfold wrap64; omega]
    rw [rowB_drop t x i (by omega)]
    cases hb : decide (0 ≤ rd x (i : Int) ∧ rd x (i : Int) ≤ t - 1) with
    | true => simp only [if_true, Bool.true_and]; exact ih k (i + 1) (by omega) (by omega) (by omega)
    | false => simp only [Bool.false_eq_true, if_false, Bool.false_and]

theorem raised_f (k : Nat) (hk : 8 ≤ k) : impl_raised.f k 2 1 = some 2 ∧ impl_raised.f k 2 3 = some 8 ∧ impl_raised.f k 2 5 = some 32 ∧ impl_raised.f k 3 1 = some 3 ∧ impl_raised.f k 3 3 = some 27 ∧ impl_raised.f k 3 5 = some 243 := by
  obtain ⟨k, rfl⟩ : ∃ m, k = m + 8 := ⟨k - 8, by omega⟩
  refine ⟨?_, ?_, ?_, ?_, ?_, ?_⟩ <;> simp [impl_raised.f, impl_raised.l0, wrap64]

open Go.Proofs.Ytcigmgocllnhfaa.Va in
theorem validB_at (s c : Int) (l : List Int) (n : Int) (hs : s = 2 ∨ s = 3) (hc : 0 ≤ c ∧ c ≤ 2) (hn : s ^ (2 * c + 1).toNat = n) : validB s c l = (decide ((l.length : Int) = n) && rowB s l) := by
  unfold validB
  rw [decide_eq_true (show 2 ≤ s ∧ s ≤ 3 by omega), decide_eq_true hc, hn]; rfl

open Go.Proofs.Ytcigmgocllnhfaa.Va in
theorem many_f (s n : Int) (l : List Int) (hs : s = 2 ∨ s = 3) (hn : l.length ≤ 140737488351232) (k : Nat) (hk : l.length < k) : impl_areMany.f k l n n 0 (wrap64 (s - 1)) = some (decide ((l.length : Int) = n) && rowB s l) := by
  have e : wrap64 (s - 1) = s - 1 := by unfold wrap64; omega
  unfold impl_areMany.f impl_areWithin.f
  rw [within_f, e]
  simp only [Option.bind_some]
  have h := areWithin_f l hn s l.length k 0 (by omega) (by omega) hk
  rw [List.drop_zero] at h
  by_cases hl : (l.length : Int) = n
  · rw [decide_eq_true (show n ≤ (l.length : Int) ∧ (l.length : Int) ≤ n by omega), decide_eq_true hl]
    simp only [if_true, Bool.true_and]
    rw [show ((0 : Nat) : Int) = 0 from rfl] at h
    rw [h]; rfl
  · rw [decide_eq_false (show ¬ (n ≤ (l.length : Int) ∧ (l.length : Int) ≤ n) by omega), decide_eq_false hl]
    simp only [Bool.false_eq_true, if_false, Bool.false_and]

open Go.Proofs.Ytcigmgocllnhfaa.Va in
theorem valid_f (s c : Int) (l : List Int) (hn : l.length ≤ 140737488351232) (k : Nat) (hk : l.length + 10 < k) : impl_ValidRule.f k s c l = some (validB s c l) := by
  obtain ⟨k, rfl⟩ : ∃ m, k = m + 1 := ⟨k - 1, by omega⟩
  unfold impl_ValidRule.f impl_areStates.f impl_isReach.f
  rw [within_f]
  by_cases hs : s = 2 ∨ s = 3
  · have e2 : (if s = 2 then some true else some (s == 3)) = some true := by rcases hs with rfl | rfl <;> rfl
    rw [e2]
    simp only [Option.bind_some, if_true]
    by_cases hc : 0 ≤ c ∧ c ≤ 2
    · rw [decide_eq_true hc]
      simp only [Bool.not_true, impl_ValidRule.j0, Bool.false_eq_true, if_false, impl_Rule_cells.f, Option.bind_some]
      have hr := raised_f k (by omega)
      have hc3 : c = 0 ∨ c = 1 ∨ c = 2 := by omega
      have w0 : wrap64 (wrap64 (2 * 0) + 1) = 1 := by unfold wrap64; omega
      have w1 : wrap64 (wrap64 (2 * 1) + 1) = 3 := by unfold wrap64; omega
      have w2 : wrap64 (wrap64 (2 * 2) + 1) = 5 := by unfold wrap64; omega
      have key : ∀ n : Int, s ^ (2 * c + 1).toNat = n → impl_raised.f k s (wrap64 (wrap64 (2 * c) + 1)) = some n →
          ((impl_raised.f k s (wrap64 (wrap64 (2 * c) + 1))).bind fun t137 => (impl_areMany.f k l t137 t137 0 (wrap64 (s - 1))).bind fun t138 => some t138) = some (validB s c l) := by
        intro n h1 h2
        rw [h2]
        simp only [Option.bind_some]
        rw [many_f s n l hs hn k (by omega), validB_at s c l n hs hc h1]
        rfl
      rcases hs with rfl | rfl <;> rcases hc3 with rfl | rfl | rfl
      · exact key 2 (by decide) (by rw [w0]; exact hr.1)
      · exact key 8 (by decide) (by rw [w1]; exact hr.2.1)
      · exact key 32 (by decide) (by rw [w2]; exact hr.2.2.1)
      · exact key 3 (by decide) (by rw [w0]; exact hr.2.2.2.1)
      · exact key 27 (by decide) (by rw [w1]; exact hr.2.2.2.2.1)
      · exact key 243 (by decide) (by rw [w2]; exact hr.2.2.2.2.2)
    · rw [decide_eq_false hc]
      simp only [Bool.not_false, impl_ValidRule.j0, if_true]
      unfold validB
      rw [decide_eq_false hc]; simp
  · have h2 : ¬ s = 2 := by omega
    have h3 : (s == 3) = false := by simp; omega
    rw [if_neg h2, h3]
    simp only [Option.bind_some, Bool.false_eq_true, if_false, impl_ValidRule.j0, if_true]
    unfold validB
    rw [decide_eq_false (show ¬ (2 ≤ s ∧ s ≤ 3) by omega)]; rfl

/-- Both bounds of a whole number of 64 bits. -/
def I64 (x : Int) : Prop := -9223372036854775808 ≤ x ∧ x ≤ 9223372036854775807

open Go.Proofs.Ytcigmgocllnhfaa.Va in
theorem is_f (s c : Int) (l : List Int) (hs : I64 s) (hc : I64 c) (hn : l.length ≤ 140737488351232) (k : Nat) : spec_l02Is.f k s c l = some (validB s c l) := by
  unfold spec_l02Is.f
  rw [if_pos ⟨hs, hc, hn⟩]

theorem sz_f (s c : Int) (l : List Int) (hn : l.length ≤ 9223372036854775807) (b : Int) (hb : 0 ≤ b ∧ b ≤ 1048576) : laws_szRule.f s c l b = some (if (l.length : Int) ≤ b then b - l.length else -1) := by
  unfold laws_szRule.f laws_szInt64S.f
  have e : wrap64 (b - (l.length : Int)) = b - l.length := by unfold wrap64; omega
  rw [e]
  by_cases h : (l.length : Int) ≤ b
  · rw [if_neg (by omega), if_pos h]; simp only [Option.bind_some]; rw [if_neg (by omega)]
  · rw [if_pos (by omega), if_neg h]; rfl

theorem toRule_f (s c : Int) (l : List Int) (hn : l.length ≤ 1048576) (k : Nat) (hk : l.length < k) : laws_toRule.f k s c l = some (s, c, l) := by
  unfold laws_toRule.f
  rw [copy_f l (by omega) k hk]; rfl

theorem eqRule_f (s r : Int) (x : List Int) (hn : x.length ≤ 140737488351232) (k : Nat) (hk : x.length < k) : laws_eqRule.f k s r x s r x = some true := by
  unfold laws_eqRule.f
  rw [if_pos rfl, if_pos rfl, eq_f x hn k hk]
  rfl

end FnExactActiveShareParts
open FnExactActiveShareParts

theorem share_loops (s r : Int) (l : List Int) (hn : l.length ≤ 140737488351232) (d : Nat) : ∀ (i k : Nat) (c : Int), i + d = l.length → 0 ≤ c → c ≤ (i : Int) → d < k →
    ∃ v, spec_ActiveShare.l0 k c (i : Int) s r l = some (v, true) ∧ impl_ActiveShare.l0 k c l (l.length : Int) (i : Int) s r l = some (v, true) := by
  induction d with
  | zero =>
    intro i k c hi h0 h1 hk
    obtain ⟨k, rfl⟩ : ∃ m, k = m + 1 := ⟨k - 1, by omega⟩
    have q1 : ¬ (i : Int) < (l.length : Int) := by omega
    have q2 : c ≤ (l.length : Int) := by omega
    refine ⟨c, ?_, ?_⟩
    · simp only [spec_ActiveShare.l0]; rw [if_neg q1, if_pos h0, if_pos q2]
    · simp only [impl_ActiveShare.l0]; rw [if_neg q1, if_pos h0, if_pos q2]
  | succ d ih =>
    intro i k c hi h0 h1 hk
    obtain ⟨k, rfl⟩ : ∃ m, k = m + 1 := ⟨k - 1, by omega⟩
    have q1 : (i : Int) < (l.length : Int) := by omega
    have q2 : 0 ≤ (i : Int) := Int.natCast_nonneg i
    have q3 : c ≤ (l.length : Int) := by omega
    have e1 : wrap64 ((i : Int) + 1) = ((i + 1 : Nat) : Int) := by unfold wrap64; omega
    have e2 : wrap64 (c + 1) = c + 1 := by unfold wrap64; omega
    by_cases hz : rd l (i : Int) = 0
    · obtain ⟨v, h3, h4⟩ := ih (i + 1) k c (by omega) h0 (by omega) (by omega)
      refine ⟨v, ?_, ?_⟩
      · simp only [spec_ActiveShare.l0]; rw [if_pos q1, if_pos q2, if_pos hz, e1]; exact h3
      · simp only [impl_ActiveShare.l0]; rw [if_pos q1, if_pos q2, if_pos q1, if_pos hz, e1]; exact h4
    · obtain ⟨v, h3, h4⟩ := ih (i + 1) k (c + 1) (by omega) (by omega) (by omega) (by omega)
      refine ⟨v, ?_, ?_⟩
      · simp only [spec_ActiveShare.l0]; rw [if_pos q1, if_pos q2, if_neg hz, if_pos h0, if_pos q3, e1, e2]; exact h3
      · simp only [impl_ActiveShare.l0]; rw [if_pos q1, if_pos q2, if_pos q1, if_neg hz, if_pos h0, if_pos q3, e1, e2]; exact h4
open Go.Proofs.Ytcigmgocllnhfaa.Va in
theorem isLen_of (s c : Int) (l : List Int) (h : validB s c l = true) : Go.Proofs.Ytcigmgocllnhfaa.Sh.isLen l.length = true := by
  unfold validB at h
  simp only [Bool.and_eq_true, decide_eq_true_eq] at h
  obtain ⟨hs2, hc2, hl, -⟩ := h
  have hs : s = 2 ∨ s = 3 := by omega
  have hc : c = 0 ∨ c = 1 ∨ c = 2 := by omega
  rw [Go.Proofs.Ytcigmgocllnhfaa.Sh.isLen_iff]
  rcases hs with rfl | rfl <;> rcases hc with rfl | rfl | rfl
  · have e : ((2 : Int) ^ (2 * (0 : Int) + 1).toNat) = 2 := by decide +kernel
    rw [e] at hl; clear e; omega
  · have e : ((2 : Int) ^ (2 * (1 : Int) + 1).toNat) = 8 := by decide +kernel
    rw [e] at hl; clear e; omega
  · have e : ((2 : Int) ^ (2 * (2 : Int) + 1).toNat) = 32 := by decide +kernel
    rw [e] at hl; clear e; omega
  · have e : ((3 : Int) ^ (2 * (0 : Int) + 1).toNat) = 3 := by decide +kernel
    rw [e] at hl; clear e; omega
  · have e : ((3 : Int) ^ (2 * (1 : Int) + 1).toNat) = 27 := by decide +kernel
    rw [e] at hl; clear e; omega
  · have e : ((3 : Int) ^ (2 * (2 : Int) + 1).toNat) = 243 := by decide +kernel
    rw [e] at hl; clear e; omega
open Go.Proofs.Ytcigmgocllnhfaa.Va in
theorem share_same (s c : Int) (l : List Int) (hs : I64 s) (hc : I64 c) (hn : l.length ≤ 140737488351232) (k : Nat) (hk : l.length + 30 < k) :
    ∃ v b, spec_ActiveShare.f k s c l = some (v, b) ∧ impl_ActiveShare.f k s c l = some (v, b) := by
  unfold spec_ActiveShare.f impl_ActiveShare.f
  rw [is_f s c l hs hc hn, valid_f s c l hn _ (by omega)]
  simp only [Option.bind_some]
  cases hv : validB s c l with
  | false => exact ⟨_, _, rfl, rfl⟩
  | true =>
    have hl := isLen_of s c l hv
    obtain ⟨v, h1, h2⟩ := share_loops s c l hn l.length 0 k 0 (by omega) (by omega) (by omega) (by omega)
    rw [show ((0 : Nat) : Int) = 0 from rfl] at h1 h2
    simp only [if_true]
    rw [if_pos hl, if_pos hl]
    exact ⟨v, true, h1, h2⟩
theorem same_f (v : Int) : laws_sameFloat.f v v = some true := by unfold laws_sameFloat.f; rw [if_pos rfl]
theorem FnExactActiveShare (s c : Int) (l : List Int) (hs : I64 s) (hc : I64 c) (hn : l.length ≤ 9223372036854775807) : ∃ k, laws_FnExactActiveShare.f k s c l = some true := by
  refine ⟨l.length + 40, ?_⟩
  unfold laws_FnExactActiveShare.f
  rw [sz_f s c l hn 1048576 (by omega)]
  simp only [Option.bind_some]
  by_cases h : (l.length : Int) ≤ 1048576
  · obtain ⟨v, b, h1, h2⟩ := share_same s c l hs hc (by omega) (l.length + 40) (by omega)
    rw [if_pos h, if_neg (by omega), toRule_f s c l (by omega) _ (by omega)]
    simp only [Option.bind_some, h1, h2, same_f, if_true, bne_self_eq_false]
    rw [show l.length + 40 = (l.length + 39) + 1 from rfl]
    simp only [laws_FnExactActiveShare.j0, Bool.false_eq_true, if_false]
    rw [toRule_f s c l (by omega) _ (by omega)]
    simp only [Option.bind_some]
    rw [eqRule_f s c l (by omega) _ (by omega)]
    rfl
  · rw [if_neg h, if_pos (by omega)]

end Go.Proofs.Ytcigmgocllnhfaa.Pure
