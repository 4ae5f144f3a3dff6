/- The plain law of FnExactSameRule, over the functions beside: program and reference answer alike. No condition beyond the stated bounds. -/
import Derived.Test.YtcigmgocllnhfaaQFnExactSameRulex3
namespace Go.Proofs.Ytcigmgocllnhfaa.Pure
open Go.RowKit Go.Proofs.Ytcigmgocllnhfaa.QFnExactSameRule Go.Proofs.YtcigmgocllnhfaaW.PrintWords Go.Proofs.YtcigmgocllnhfaaW.PrintLast
set_option linter.unusedSimpArgs false
set_option linter.unusedVariables false

namespace FnExactSameRuleParts
theorem eq_loop (x0 : List Int) (hn : x0.length ≤ 140737488351232) (d : Nat) : ∀ (k : Nat) (i : Int), 0 ≤ i → (x0.length : Int) - i = d → d < k → laws_eqInt64S.l0 k x0 x0 i = some true := by
  induction d with
  | zero =>
    intro k i h0 hd hk
    obtain ⟨k, rfl⟩ : ∃ m, k = m + 1 := ⟨k - 1, by omega⟩
    simp only [laws_eqInt64S.l0]
    rw [if_neg (by omega)]
  | succ d ih =>
    intro k i h0 hd hk
    obtain ⟨k, rfl⟩ : ∃ m, k = m + 1 := ⟨k - 1, by omega⟩
    simp only [laws_eqInt64S.l0]
    rw [if_pos (by omega), if_pos h0, if_pos (by omega), if_pos trivial, show wrap64 (i + 1) = i + 1 by unfold wrap64; omega]
    exact ih k (i + 1) (by omega) (by omega) (by omega)

theorem eq_f (x0 : List Int) (hn : x0.length ≤ 140737488351232) (k : Nat) (hk : x0.length < k) : laws_eqInt64S.f k x0 x0 = some true := by
  unfold laws_eqInt64S.f
  rw [if_pos rfl]
  exact eq_loop x0 hn x0.length k 0 (by omega) (by omega) hk

theorem rd_get (x : List Int) (i : Int) (h0 : 0 ≤ i) (h : i < (x.length : Int)) : x[i.toNat]? = some (rd x i) := by
  unfold rd
  rw [List.getD_eq_getElem?_getD, List.getElem?_eq_getElem (by omega)]
  rfl

theorem wrap_up {i : Int} {n : Nat} (h0 : 0 ≤ i) (h : i < (n : Int)) (hn : n ≤ 140737488351232) : wrap64 (i + 1) = i + 1 := by
  unfold wrap64; omega

theorem copy_loop (x0 : List Int) (hn : x0.length ≤ 140737488351232) (d : Nat) : ∀ (k : Nat) (x3 : List Int) (i : Int), 0 ≤ i → (x0.length : Int) - i = d → x3.length = x0.length →
    (∀ j : Nat, (j : Int) < i → x3[j]? = x0[j]?) → d < k → laws_toInt64S.l0 k x0 x3 i = some x0 := by
  induction d with
  | zero =>
    intro k x3 i h0 hd hl hj hk
    obtain ⟨k, rfl⟩ : ∃ m, k = m + 1 := ⟨k - 1, by omega⟩
    simp only [laws_toInt64S.l0]
    rw [if_neg (by omega)]
    congr 1
    apply List.ext_getElem?
    intro j
    by_cases h : (j : Int) < i
    · exact hj j h
    · rw [List.getElem?_eq_none (by omega), List.getElem?_eq_none (by omega)]
  | succ d ih =>
    intro k x3 i h0 hd hl hj hk
    obtain ⟨k, rfl⟩ : ∃ m, k = m + 1 := ⟨k - 1, by omega⟩
    simp only [laws_toInt64S.l0]
    rw [if_pos (by omega), if_pos h0, if_pos (by omega), wrap_up (n := x0.length) h0 (by omega) hn]
    refine ih k _ (i + 1) (by omega) (by omega) (by simpa using hl) ?_ (by omega)
    intro j hlt
    rw [List.getElem?_set]
    by_cases h : i.toNat = j
    · subst h
      rw [if_pos rfl, if_pos (by omega), rd_get x0 i h0 (by omega)]
    · rw [if_neg h]
      exact hj j (by omega)

theorem copy_f (x0 : List Int) (hn : x0.length * 8 ≤ 140737488351232) (k : Nat) (hk : x0.length < k) : laws_toInt64S.f k x0 = some x0 := by
  unfold laws_toInt64S.f
  rw [if_pos (by omega), if_pos (by omega)]
  exact copy_loop x0 (by omega) x0.length k _ 0 (by omega) (by omega) (by simp) (by intro j h; omega) hk

def I64 (x : Int) : Prop := -9223372036854775808 ≤ x ∧ x ≤ 9223372036854775807

theorem sz_f (s c : Int) (l : List Int) (hn : l.length ≤ 9223372036854775807) (b : Int) (hb : 0 ≤ b ∧ b ≤ 1048576) : laws_szRule.f s c l b = some (if (l.length : Int) ≤ b then b - l.length else -1) := by
  unfold laws_szRule.f laws_szInt64S.f
  have e : wrap64 (b - (l.length : Int)) = b - l.length := by unfold wrap64; omega
  rw [e]
  by_cases h : (l.length : Int) ≤ b
  · rw [if_neg (by omega), if_pos h]; simp only [Option.bind_some]; rw [if_neg (by omega)]
  · rw [if_pos (by omega), if_neg h]; rfl

theorem toRule_f (s c : Int) (l : List Int) (hn : l.length ≤ 1048576) (k : Nat) (hk : l.length < k) : laws_toRule.f k s c l = some (s, c, l) := by
  unfold laws_toRule.f
  rw [copy_f l (by omega) k hk]; rfl

theorem eqRule_f (s r : Int) (x : List Int) (hn : x.length ≤ 140737488351232) (k : Nat) (hk : x.length < k) : laws_eqRule.f k s r x s r x = some true := by
  unfold laws_eqRule.f
  rw [if_pos rfl, if_pos rfl, eq_f x hn k hk]
  rfl

end FnExactSameRuleParts
open FnExactSameRuleParts

theorem same_loops (a b : List Int) (hl : a.length = b.length) (hn : a.length ≤ 140737488351232) (d : Nat) : ∀ (k : Nat) (i : Nat), a.length - i = d → i ≤ a.length → d < k →
    ∃ v, spec_l02Equal.l0 k a b (i : Int) = some v ∧ slices_Equal_int64_int64.l0 k a b (a.length : Int) (i : Int) = some v := by
  induction d with
  | zero =>
    intro k i hd hi hk
    obtain ⟨k, rfl⟩ : ∃ m, k = m + 1 := ⟨k - 1, by omega⟩
    refine ⟨true, ?_, ?_⟩
    · simp only [spec_l02Equal.l0]; rw [if_neg (by omega)]
    · simp only [slices_Equal_int64_int64.l0]; rw [if_neg (by omega)]
  | succ d ih =>
    intro k i hd hi hk
    obtain ⟨k, rfl⟩ : ∃ m, k = m + 1 := ⟨k - 1, by omega⟩
    have e : wrap64 ((i : Int) + 1) = ((i + 1 : Nat) : Int) := by unfold wrap64; omega
    by_cases hx : rd a (i : Int) = rd b (i : Int)
    · obtain ⟨v, h1, h2⟩ := ih k (i + 1) (by omega) (by omega) (by omega)
      refine ⟨v, ?_, ?_⟩
      · simp only [spec_l02Equal.l0]
        rw [if_pos (show (i : Int) < (a.length : Int) by omega), if_pos (show 0 ≤ (i : Int) by omega), if_pos (show (i : Int) < (b.length : Int) by omega), if_pos hx, e]; exact h1
      · simp only [slices_Equal_int64_int64.l0]
        rw [if_pos (show (i : Int) < (a.length : Int) by omega), if_pos (show 0 ≤ (i : Int) by omega), if_pos (show (i : Int) < (a.length : Int) by omega), if_pos (show (i : Int) < (b.length : Int) by omega), if_pos hx, e]; exact h2
    · refine ⟨false, ?_, ?_⟩
      · simp only [spec_l02Equal.l0]
        rw [if_pos (show (i : Int) < (a.length : Int) by omega), if_pos (show 0 ≤ (i : Int) by omega), if_pos (show (i : Int) < (b.length : Int) by omega), if_neg hx]
      · simp only [slices_Equal_int64_int64.l0]
        rw [if_pos (show (i : Int) < (a.length : Int) by omega), if_pos (show 0 ≤ (i : Int) by omega), if_pos (show (i : Int) < (a.length : Int) by omega), if_pos (show (i : Int) < (b.length : Int) by omega), if_neg hx]

theorem same_lists (a b : List Int) (hn : a.length ≤ 140737488351232) (k : Nat) (hk : a.length < k) :
    ∃ v, spec_l02Equal.f k a b = some v ∧ slices_Equal_int64_int64.f k a b = some v := by
  unfold spec_l02Equal.f slices_Equal_int64_int64.f
  by_cases hl : (a.length : Int) = (b.length : Int)
  · rw [if_pos hl, if_pos hl]
    exact same_loops a b (by omega) hn a.length k 0 rfl (by omega) hk
  · rw [if_neg hl, if_neg hl]; exact ⟨false, rfl, rfl⟩

theorem same_f (s c : Int) (l : List Int) (t d : Int) (m : List Int) (hn : l.length ≤ 140737488351232) (k : Nat) (hk : l.length < k) :
    ∃ v, spec_SameRule.f k s c l t d m = some v ∧ impl_SameRule.f k s c l t d m = some v := by
  unfold spec_SameRule.f impl_SameRule.f
  obtain ⟨v, h1, h2⟩ := same_lists l m hn k hk
  rw [h1, h2]
  by_cases e1 : s = t
  · by_cases e2 : c = d
    · rw [if_pos e1, if_pos e2]; exact ⟨v, rfl, rfl⟩
    · rw [if_pos e1, if_neg e2]; exact ⟨false, rfl, rfl⟩
  · rw [if_neg e1]; exact ⟨false, rfl, rfl⟩

theorem FnExactSameRule (s c : Int) (l : List Int) (hs : I64 s) (hc : I64 c) (hn : l.length ≤ 9223372036854775807) (t d : Int) (m : List Int) (ht : I64 t) (hd : I64 d) (hm : m.length ≤ 9223372036854775807) : ∃ k, laws_FnExactSameRule.f k s c l t d m = some true := by
  refine ⟨l.length + m.length + 20, ?_⟩
  unfold laws_FnExactSameRule.f
  rw [sz_f s c l hn 1048576 (by omega)]
  simp only [Option.bind_some]
  by_cases h : (l.length : Int) ≤ 1048576
  · rw [if_pos h, if_neg (by omega), sz_f t d m hm (1048576 - l.length) (by omega)]
    simp only [Option.bind_some]
    by_cases h' : (m.length : Int) ≤ 1048576 - l.length
    · obtain ⟨v, h1, h2⟩ := same_f s c l t d m (by omega) (l.length + m.length + 20) (by omega)
      rw [if_pos h', if_neg (by omega), toRule_f s c l (by omega) _ (by omega), toRule_f t d m (by omega) _ (by omega)]
      simp only [Option.bind_some, h1, h2, bne_self_eq_false, Bool.false_eq_true, if_false]
      rw [eqRule_f s c l (by omega) _ (by omega)]
      simp only [Option.bind_some, if_true]
      rw [eqRule_f t d m (by omega) _ (by omega)]
      rfl
    · rw [if_neg h', if_pos (by omega)]
  · rw [if_neg h, if_pos (by omega)]

end Go.Proofs.Ytcigmgocllnhfaa.Pure
