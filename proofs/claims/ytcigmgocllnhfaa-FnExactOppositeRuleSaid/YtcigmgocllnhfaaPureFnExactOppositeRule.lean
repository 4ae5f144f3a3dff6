/- The plain law of FnExactOppositeRule, over the functions beside: program and reference answer alike. No condition beyond the stated bounds. -/
import Derived.Test.YtcigmgocllnhfaaQFnExactOppositeRulex5
namespace Go.Proofs.Ytcigmgocllnhfaa.Pure
open Go.RowKit Go.Proofs.Ytcigmgocllnhfaa.QFnExactOppositeRule Go.Proofs.YtcigmgocllnhfaaW.PrintWords Go.Proofs.YtcigmgocllnhfaaW.PrintLast
set_option linter.unusedSimpArgs false
set_option linter.unusedVariables false

namespace FnExactOppositeRuleParts
theorem eq_loop (x0 : List Int) (hn : x0.length ≤ 140737488351232) (d : Nat) : ∀ (k : Nat) (i : Int), 0 ≤ i → (x0.length : Int) - i = d → d < k → laws_eqInt64S.l0 k x0 x0 i = some true := by
  induction d with
  | zero =>
    intro k i h0 hd hk
    obtain ⟨k, rfl⟩ : ∃ m, k = m + 1 := ⟨k - 1, by omega⟩
    simp only [laws_eqInt64S.l0]
    rw [if_neg (by omega)]
  | succ d ih =>
    intro k i h0 hd hk
    obtain ⟨k, rfl⟩ : ∃ m, k = m + 1 := ⟨k - 1, by omega⟩
    simp only [laws_eqInt64S.l0]
    rw [if_pos (by omega), if_pos h0, if_pos (by omega), if_pos trivial, show wrap64 (i + 1) = i + 1 by unfold wrap64; omega]
    exact ih k (i + 1) (by omega) (by omega) (by omega)

theorem eq_f (x0 : List Int) (hn : x0.length ≤ 140737488351232) (k : Nat) (hk : x0.length < k) : laws_eqInt64S.f k x0 x0 = some true := by
  unfold laws_eqInt64S.f
  rw [if_pos rfl]
  exact eq_loop x0 hn x0.length k 0 (by omega) (by omega) hk

theorem rd_get (x : List Int) (i : Int) (h0 : 0 ≤ i) (h : i < (x.length : Int)) : x[i.toNat]? = some (rd x i) := by
  unfold rd
  rw [List.getD_eq_getElem?_getD, List.getElem?_eq_getElem (by omega)]
  rfl

theorem wrap_up {i : Int} {n : Nat} (h0 : 0 ≤ i) (h : i < (n : Int)) (hn : n ≤ 140737488351232) : wrap64 (i + 1) = i + 1 := by
  unfold wrap64; omega

theorem copy_loop (x0 : List Int) (hn : x0.length ≤ 140737488351232) (d : Nat) : ∀ (k : Nat) (x3 : List Int) (i : Int), 0 ≤ i → (x0.length : Int) - i = d → x3.length = x0.length →
    (∀ j : Nat, (j : Int) < i → x3[j]? = x0[j]?) → d < k → laws_toInt64S.l0 k x0 x3 i = some x0 := by
  induction d with
  | zero =>
    intro k x3 i h0 hd hl hj hk
    obtain ⟨k, rfl⟩ : ∃ m, k = m + 1 := ⟨k - 1, by omega⟩
    simp only [laws_toInt64S.l0]
    rw [if_neg (by omega)]
    congr 1
    apply List.ext_getElem?
    intro j
    by_cases h : (j : Int) < i
    · exact hj j h
    · rw [List.getElem?_eq_none (by omega), List.getElem?_eq_none (by omega)]
  | succ d ih =>
    intro k x3 i h0 hd hl hj hk
    obtain ⟨k, rfl⟩ : ∃ m, k = m + 1 := ⟨k - 1, by omega⟩
    simp only [laws_toInt64S.l0]
    rw [if_pos (by omega), if_pos h0, if_pos (by omega), wrap_up (n := x0.length) h0 (by omega) hn]
    refine ih k _ (i + 1) (by omega) (by omega) (by simpa using hl) ?_ (by omega)
    intro j hlt
    rw [List.getElem?_set]
    by_cases h : i.toNat = j
    · subst h
      rw [if_pos rfl, if_pos (by omega), rd_get x0 i h0 (by omega)]
    · rw [if_neg h]
      exact hj j (by omega)

theorem copy_f (x0 : List Int) (hn : x0.length * 8 ≤ 140737488351232) (k : Nat) (hk : x0.length < k) : laws_toInt64S.f k x0 = some x0 := by
  unfold laws_toInt64S.f
  rw [if_pos (by omega), if_pos (by omega)]
  exact copy_loop x0 (by omega) x0.length k _ 0 (by omega) (by omega) (by simp) (by intro j h; omega) hk

theorem in_f (a b c : Int) : spec_l00In.f a b c = some (decide (b ≤ a ∧ a ≤ c)) := by
  unfold spec_l00In.f
  by_cases h : a ≥ b
  · rw [if_pos h]; simp; omega
  · rw [if_neg h]; simp; omega

theorem within_f (a b c : Int) : impl_within.f a b c = some (decide (b ≤ a ∧ a ≤ c)) := by
  unfold impl_within.f
  by_cases h : a ≥ b
  · rw [if_pos h]; simp; omega
  · rw [if_neg h]; simp; omega


/-- What marking leaves: a, a + 1, .. -/
def Marked (a : Int) (x : List Int) : Prop := ∀ j : Nat, j < x.length → x[j]? = some (a + j)

theorem mark_loop (n : Nat) (hn : n ≤ 140737488351232) (d : Nat) : ∀ (k : Nat) (x : List Int) (i a : Int), 0 ≤ i → x.length = n → (n : Int) - i = d → a = 1 + i →
    (∀ j : Nat, (j : Int) < i → x[j]? = some (1 + (j : Int))) → d < k → ∃ y, laws_markInt64S.l0 k x a i = some (1 + (n : Int), y) ∧ y.length = n ∧ Marked 1 y := by
  induction d with
  | zero =>
    intro k x i a h0 hl hd ha hj hk
    obtain ⟨k, rfl⟩ : ∃ m, k = m + 1 := ⟨k - 1, by omega⟩
    simp only [laws_markInt64S.l0]
    rw [if_neg (by omega)]
    exact ⟨x, by rw [show a = 1 + (n : Int) by omega], hl, fun j h => hj j (by omega)⟩
  | succ d ih =>
    intro k x i a h0 hl hd ha hj hk
    obtain ⟨k, rfl⟩ : ∃ m, k = m + 1 := ⟨k - 1, by omega⟩
    simp only [laws_markInt64S.l0]
    rw [if_pos (by omega), if_pos h0, show wrap64 (i + 1) = i + 1 by unfold wrap64; omega, show wrap64 (a + 1) = a + 1 by unfold wrap64; omega]
    refine ih k _ (i + 1) (a + 1) (by omega) (by simpa using hl) (by omega) (by omega) ?_ (by omega)
    intro j hlt
    rw [List.getElem?_set]
    by_cases h : i.toNat = j
    · subst h
      rw [if_pos rfl, if_pos (by omega)]
      congr 1; omega
    · rw [if_neg h]
      exact hj j (by omega)

theorem mark_f (x : List Int) (hn : x.length ≤ 140737488351232) (k : Nat) (hk : x.length < k) : ∃ y, laws_markInt64S.f k x 1 = some (1 + (x.length : Int), y) ∧ y.length = x.length ∧ Marked 1 y := by
  unfold laws_markInt64S.f
  exact mark_loop x.length hn x.length k x 0 1 (by omega) rfl (by omega) (by omega) (by intro j h; omega) hk

theorem held_loop (x : List Int) (hn : x.length ≤ 140737488351232) (hm : Marked 1 x) (d : Nat) : ∀ (k : Nat) (i a : Int), 0 ≤ i → (x.length : Int) - i = d → a = 1 + i → d < k →
    laws_heldInt64S.l0 k x a i = some (1 + (x.length : Int)) := by
  induction d with
  | zero =>
    intro k i a h0 hd ha hk
    obtain ⟨k, rfl⟩ : ∃ m, k = m + 1 := ⟨k - 1, by omega⟩
    simp only [laws_heldInt64S.l0]
    rw [if_neg (by omega)]
    congr 1; omega
  | succ d ih =>
    intro k i a h0 hd ha hk
    obtain ⟨k, rfl⟩ : ∃ m, k = m + 1 := ⟨k - 1, by omega⟩
    simp only [laws_heldInt64S.l0]
    have hr : rd x i = a := by
      have h1 := hm i.toNat (by omega)
      unfold rd
      rw [List.getD_eq_getElem?_getD, h1]
      simp; omega
    rw [if_pos (by omega), if_pos h0, if_pos hr, show wrap64 (i + 1) = i + 1 by unfold wrap64; omega, show wrap64 (a + 1) = a + 1 by unfold wrap64; omega]
    exact ih k (i + 1) (a + 1) (by omega) (by omega) (by omega) (by omega)

theorem held_f (x : List Int) (hn : x.length ≤ 140737488351232) (hm : Marked 1 x) (k : Nat) (hk : x.length < k) : laws_heldInt64S.f k x 1 = some (1 + (x.length : Int)) := by
  unfold laws_heldInt64S.f
  exact held_loop x hn hm x.length k 0 1 (by omega) (by omega) (by omega) hk

theorem markRule_f (s r : Int) (x : List Int) (hn : x.length ≤ 140737488351232) (k : Nat) (hk : x.length < k) : ∃ y, laws_markRule.f k s r x 1 = some (1 + (x.length : Int), y) ∧ y.length = x.length ∧ Marked 1 y := by
  obtain ⟨y, h1, h2, h3⟩ := mark_f x hn k hk
  refine ⟨y, ?_, h2, h3⟩
  unfold laws_markRule.f
  rw [h1]
  rfl

theorem heldRule_f (s r : Int) (x : List Int) (hn : x.length ≤ 140737488351232) (hm : Marked 1 x) (k : Nat) (hk : x.length < k) : laws_heldRule.f k s r x 1 = some (1 + (x.length : Int)) := by
  unfold laws_heldRule.f
  rw [held_f x hn hm k hk]
  simp only [Option.bind_some]
  rw [if_neg (by omega)]

open Go.Proofs.Ytcigmgocllnhfaa.Va in
theorem areWithin_f (x : List Int) (hn : x.length ≤ 140737488351232) (t : Int) (d : Nat) : ∀ (k : Nat) (i : Nat), x.length - i = d → i ≤ x.length → d < k →
    impl_areWithin.l0 k 0 (t - 1) x x.length (i : Int) = some (rowB t (x.drop i)) := by
  induction d with
  | zero =>
    intro k i hd hi hk
    obtain ⟨k, rfl⟩ : ∃ m, k = m + 1 := ⟨k - 1, by omega⟩
    simp only [impl_areWithin.l0]
    rw [if_neg (by omega), show i = x.length by omega, List.drop_length]
    rfl
  | succ d ih =>
    intro k i hd hi hk
    obtain ⟨k, rfl⟩ : ∃ m, k = m + 1 := ⟨k - 1, by omega⟩
    simp only [impl_areWithin.l0, if_pos (show (i : Int) < (x.length : Int) by omega), if_pos (show 0 ≤ (i : Int) by omega), within_f, Option.bind_some, show wrap64 ((i : Int) + 1) = ((i + 1 : Nat) : Int) by unfold wrap64; omega]
    rw [rowB_drop t x i (by omega)]
    cases hb : decide (0 ≤ rd x (i : Int) ∧ rd x (i : Int) ≤ t - 1) with
    | true => simp only [if_true, Bool.true_and]; exact ih k (i + 1) (by omega) (by omega) (by omega)
    | false => simp only [Bool.false_eq_true, if_false, Bool.false_and]

theorem raised_f (k : Nat) (hk : 8 ≤ k) : impl_raised.f k 2 1 = some 2 ∧ impl_raised.f k 2 3 = some 8 ∧ impl_raised.f k 2 5 = some 32 ∧ impl_raised.f k 3 1 = some 3 ∧ impl_raised.f k 3 3 = some 27 ∧ impl_raised.f k 3 5 = some 243 := by
  obtain ⟨k, rfl⟩ : ∃ m, k = m + 8 := ⟨k - 8, by omega⟩
  refine ⟨?_, ?_, ?_, ?_, ?_, ?_⟩ <;> simp [impl_raised.f, impl_raised.l0, wrap64]

open Go.Proofs.Ytcigmgocllnhfaa.Va in
theorem validB_at (s c : Int) (l : List Int) (n : Int) (hs : s = 2 ∨ s = 3) (hc : 0 ≤ c ∧ c ≤ 2) (hn : s ^ (2 * c + 1).toNat = n) : validB s c l = (decide ((l.length : Int) = n) && rowB s l) := by
  unfold validB
  rw [decide_eq_true (show 2 ≤ s ∧ s ≤ 3 by omega), decide_eq_true hc, hn]; rfl

open Go.Proofs.Ytcigmgocllnhfaa.Va in
theorem many_f (s n : Int) (l : List Int) (hs : s = 2 ∨ s = 3) (hn : l.length ≤ 140737488351232) (k : Nat) (hk : l.length < k) : impl_areMany.f k l n n 0 (wrap64 (s - 1)) = some (decide ((l.length : Int) = n) && rowB s l) := by
  have e : wrap64 (s - 1) = s - 1 := by unfold wrap64; omega
  unfold impl_areMany.f impl_areWithin.f
  rw [within_f, e]
  simp only [Option.bind_some]
  have h := areWithin_f l hn s l.length k 0 (by omega) (by omega) hk
  rw [List.drop_zero] at h
  by_cases hl : (l.length : Int) = n
  · rw [decide_eq_true (show n ≤ (l.length : Int) ∧ (l.length : Int) ≤ n by omega), decide_eq_true hl]
    simp only [if_true, Bool.true_and]
    rw [show ((0 : Nat) : Int) = 0 from rfl] at h
    rw [h]; rfl
  · rw [decide_eq_false (show ¬ (n ≤ (l.length : Int) ∧ (l.length : Int) ≤ n) by omega), decide_eq_false hl]
    simp only [Bool.false_eq_true, if_false, Bool.false_and]

open Go.Proofs.Ytcigmgocllnhfaa.Va in
theorem valid_f (s c : Int) (l : List Int) (hn : l.length ≤ 140737488351232) (k : Nat) (hk : l.length + 10 < k) : impl_ValidRule.f k s c l = some (validB s c l) := by
  obtain ⟨k, rfl⟩ : ∃ m, k = m + 1 := ⟨k - 1, by omega⟩
  unfold impl_ValidRule.f impl_areStates.f impl_isReach.f
  rw [within_f]
  by_cases hs : s = 2 ∨ s = 3
  · have e2 : (if s = 2 then some true else some (s == 3)) = some true := by rcases hs with rfl | rfl <;> rfl
    rw [e2]
    simp only [Option.bind_some, if_true]
    by_cases hc : 0 ≤ c ∧ c ≤ 2
    · rw [decide_eq_true hc]
      simp only [Bool.not_true, impl_ValidRule.j0, Bool.false_eq_true, if_false, impl_Rule_cells.f, Option.bind_some]
      have hr := raised_f k (by omega)
      have hc3 : c = 0 ∨ c = 1 ∨ c = 2 := by omega
      have w0 : wrap64 (wrap64 (2 * 0) + 1) = 1 := by unfold wrap64; omega
      have w1 : wrap64 (wrap64 (2 * 1) + 1) = 3 := by unfold wrap64; omega
      have w2 : wrap64 (wrap64 (2 * 2) + 1) = 5 := by unfold wrap64; omega
      have key : ∀ n : Int, s ^ (2 * c + 1).toNat = n → impl_raised.f k s (wrap64 (wrap64 (2 * c) + 1)) = some n →
          ((impl_raised.f k s (wrap64 (wrap64 (2 * c) + 1))).bind fun t137 => (impl_areMany.f k l t137 t137 0 (wrap64 (s - 1))).bind fun t138 => some t138) = some (validB s c l) := by
        intro n h1 h2
        rw [h2]
        simp only [Option.bind_some]
        rw [many_f s n l hs hn k (by omega), validB_at s c l n hs hc h1]
        rfl
      rcases hs with rfl | rfl <;> rcases hc3 with rfl | rfl | rfl
      · exact key 2 (by decide) (by rw [w0]; exact hr.1)
      · exact key 8 (by decide) (by rw [w1]; exact hr.2.1)
      · exact key 32 (by decide) (by rw [w2]; exact hr.2.2.1)
      · exact key 3 (by decide) (by rw [w0]; exact hr.2.2.2.1)
      · exact key 27 (by decide) (by rw [w1]; exact hr.2.2.2.2.1)
      · exact key 243 (by decide) (by rw [w2]; exact hr.2.2.2.2.2)
    · rw [decide_eq_false hc]
      simp only [Bool.not_false, impl_ValidRule.j0, if_true]
      unfold validB
      rw [decide_eq_false hc]; simp
  · have h2 : ¬ s = 2 := by omega
    have h3 : (s == 3) = false := by simp; omega
    rw [if_neg h2, h3]
    simp only [Option.bind_some, Bool.false_eq_true, if_false, impl_ValidRule.j0, if_true]
    unfold validB
    rw [decide_eq_false (show ¬ (2 ≤ s ∧ s ≤ 3) by omega)]; rfl

/-- Both bounds of a whole number of 64 bits. -/
def I64 (x : Int) : Prop := -9223372036854775808 ≤ x ∧ x ≤ 9223372036854775807

open Go.Proofs.Ytcigmgocllnhfaa.Va in
theorem is_f (s c : Int) (l : List Int) (hs : I64 s) (hc : I64 c) (hn : l.length ≤ 140737488351232) (k : Nat) : spec_l02Is.f k s c l = some (validB s c l) := by
  unfold spec_l02Is.f
  rw [if_pos ⟨hs, hc, hn⟩]

theorem sz_f (s c : Int) (l : List Int) (hn : l.length ≤ 9223372036854775807) (b : Int) (hb : 0 ≤ b ∧ b ≤ 1048576) : laws_szRule.f s c l b = some (if (l.length : Int) ≤ b then b - l.length else -1) := by
  unfold laws_szRule.f laws_szInt64S.f
  have e : wrap64 (b - (l.length : Int)) = b - l.length := by unfold wrap64; omega
  rw [e]
  by_cases h : (l.length : Int) ≤ b
  · rw [if_neg (by omega), if_pos h]; simp only [Option.bind_some]; rw [if_neg (by omega)]
  · rw [if_pos (by omega), if_neg h]; rfl

theorem toRule_f (s c : Int) (l : List Int) (hn : l.length ≤ 1048576) (k : Nat) (hk : l.length < k) : laws_toRule.f k s c l = some (s, c, l) := by
  unfold laws_toRule.f
  rw [copy_f l (by omega) k hk]; rfl

theorem eqRule_f (s r : Int) (x : List Int) (hn : x.length ≤ 140737488351232) (k : Nat) (hk : x.length < k) : laws_eqRule.f k s r x s r x = some true := by
  unfold laws_eqRule.f
  rw [if_pos rfl, if_pos rfl, eq_f x hn k hk]
  rfl

/-- The digits of a number, the greatest one first. -/
def digs (s : Nat) : Nat → Nat → List Int
  | 0, _ => []
  | n + 1, x => digs s n (x / s) ++ [((x % s : Nat) : Int)]
theorem digs_len (s : Nat) : ∀ n x, (digs s n x).length = n
  | 0, _ => rfl
  | n + 1, x => by simp [digs, digs_len s n]
theorem digs_lt (s : Nat) (hs : 0 < s) : ∀ n x, ∀ y ∈ digs s n x, 0 ≤ y ∧ y ≤ (s : Int) - 1
  | 0, _ => by simp [digs]
  | n + 1, x => by
    intro y hy
    rcases List.mem_append.mp hy with h | h
    · exact digs_lt s hs n _ y h
    · have h' : y = ((x % s : Nat) : Int) := by simpa using h
      subst h'
      have := Nat.mod_lt x hs
      omega
theorem impl_digits_loop (s : Nat) (hs : s = 2 ∨ s = 3) : ∀ (n k x : Nat) (l : List Int), x ≤ 1000000 → n ≤ l.length → n ≤ 1000 → n < k → impl_digitsOf.l0 k (x : Int) (s : Int) l ((n : Int) - 1) = some (digs s n x ++ l.drop n) := by
  intro n
  induction n with
  | zero =>
    intro k x l hx hl hn hk
    obtain ⟨k, rfl⟩ : ∃ m, k = m + 1 := ⟨k - 1, by omega⟩
    simp only [impl_digitsOf.l0]
    rw [if_neg (by omega)]
    rfl
  | succ n ih =>
    intro k x l hx hl hn hk
    obtain ⟨k, rfl⟩ : ∃ m, k = m + 1 := ⟨k - 1, by omega⟩
    have ed : Int.tdiv (x : Int) (s : Int) = ((x / s : Nat) : Int) := rfl
    have em : Int.tmod (x : Int) (s : Int) = ((x % s : Nat) : Int) := rfl
    have hd : x / s ≤ x := Nat.div_le_self _ _
    have he : digs s (n + 1) x = digs s n (x / s) ++ [((x % s : Nat) : Int)] := rfl
    rw [he]
    clear he
    revert ed em hd
    generalize x / s = q
    generalize x % s = z
    intro ed em hd
    simp only [impl_digitsOf.l0]
    rw [if_pos (by omega), if_neg (by omega), if_pos (by omega), if_pos (by omega), ed, em, show wrap64 (q : Int) = (q : Int) by unfold wrap64; omega, show wrap64 (((n + 1 : Nat) : Int) - 1 - 1) = ((n : Nat) : Int) - 1 by unfold wrap64; omega, show (((n + 1 : Nat) : Int) - 1).toNat = n by omega]
    rw [ih k q (l.set n (z : Int)) (by omega) (by simp; omega) (by omega) (by omega)]
    congr 1
    rw [List.append_assoc]
    congr 1
    rw [List.drop_eq_getElem_cons (by simp; omega), List.drop_set_of_lt (by omega)]
    simp
theorem impl_digits_f (s : Nat) (hs : s = 2 ∨ s = 3) (n x k : Nat) (hx : x ≤ 1000000) (hn : n ≤ 1000) (hk : n < k) : impl_digitsOf.f k (x : Int) (s : Int) (n : Int) = some (digs s n x) := by
  unfold impl_digitsOf.f
  rw [if_pos (by omega), show ((n : Nat) : Int).toNat = n by omega, if_pos (by omega), show wrap64 ((n : Int) - 1) = (n : Int) - 1 by unfold wrap64; omega]
  rw [impl_digits_loop s hs n k x (List.replicate n 0) hx (by simp) hn hk]
  simp

structure PowFacts (s long : Nat) : Prop where
  hs : s = 2 ∨ s = 3
  hl : long ≤ 5
  hp : s ^ long ≤ 243
  pw : spec_l02Powers.f 12 (s : Int) (long : Int) = some ((s ^ long : Nat) : Int)
  ra : impl_raised.f 12 (s : Int) (long : Int) = some ((s ^ long : Nat) : Int)
theorem powFacts21 : PowFacts 2 1 := ⟨by decide, by decide, by decide, by decide +kernel, by decide +kernel⟩
theorem powFacts23 : PowFacts 2 3 := ⟨by decide, by decide, by decide, by decide +kernel, by decide +kernel⟩
theorem powFacts25 : PowFacts 2 5 := ⟨by decide, by decide, by decide, by decide +kernel, by decide +kernel⟩
theorem powFacts31 : PowFacts 3 1 := ⟨by decide, by decide, by decide, by decide +kernel, by decide +kernel⟩
theorem powFacts33 : PowFacts 3 3 := ⟨by decide, by decide, by decide, by decide +kernel, by decide +kernel⟩
theorem powFacts35 : PowFacts 3 5 := ⟨by decide, by decide, by decide, by decide +kernel, by decide +kernel⟩
theorem powFacts (s r : Nat) (hs : s = 2 ∨ s = 3) (hr : r = 0 ∨ r = 1 ∨ r = 2) : PowFacts s (2 * r + 1) := by
  rcases hs with rfl | rfl <;> rcases hr with rfl | rfl | rfl
  · exact powFacts21
  · exact powFacts23
  · exact powFacts25
  · exact powFacts31
  · exact powFacts33
  · exact powFacts35

/-- impl.made's loop, over variables alone. -/
theorem made_gen (tell : Nat → List Int → Option Int) (s r long : Int) (N : Nat) (hN : N ≤ 243) (h4 : wrap64 (wrap64 (2 * r) + 1) = long) (val : Nat → Int)
    (hst : ∀ x, x < N → ∃ t, (∀ k, 12 ≤ k → impl_digitsOf.f k (x : Int) s long = some t) ∧ ∀ k, 12 ≤ k → tell k t = some (val x)) (d : Nat) : ∀ (k x : Nat) (acc : List Int), x + d = N → acc.length = x → d + 14 < k →
    impl_made.l0 tell k s (N : Int) (x : Int) s r acc = some (s, r, acc ++ (List.range' x d).map val) := by
  induction d with
  | zero =>
    intro k x acc hx ha hk
    obtain ⟨k, rfl⟩ : ∃ m, k = m + 1 := ⟨k - 1, by omega⟩
    have q1 : ¬ (x : Int) < (N : Int) := by omega
    simp only [impl_made.l0]
    rw [if_neg q1]
    simp
  | succ d ih =>
    intro k x acc hx ha hk
    obtain ⟨k, rfl⟩ : ∃ m, k = m + 1 := ⟨k - 1, by omega⟩
    have hxN : x < N := by omega
    have q1 : (x : Int) < (N : Int) := by omega
    have q2 : acc.length < 17592186044416 := by omega
    have q3 : wrap64 ((x : Int) + 1) = ((x + 1 : Nat) : Int) := by unfold wrap64; omega
    obtain ⟨t, h1, h2⟩ := hst x hxN
    have g1 := h1 k (by omega)
    have g2 := h2 k (by omega)
    have g3 := ih k (x + 1) (acc ++ [val x]) (by omega) (by simp; omega) (by omega)
    simp only [impl_made.l0, impl_Rule_cells.f]
    rw [if_pos q1]
    simp only [Option.bind_some]
    rw [h4, g1]
    simp only [Option.bind_some]
    rw [g2]
    simp only [Option.bind_some]
    rw [if_pos q2, q3, g3, List.range'_succ, List.map_cons, List.append_assoc]
    rfl

end FnExactOppositeRuleParts
open FnExactOppositeRuleParts

theorem rd_at (l : List Int) (i : Nat) (h : i < l.length) : rd l (i : Int) = l[i] := by
  unfold rd; rw [List.getD_eq_getElem?_getD]; simp [h]
theorem opp_set (l : List Int) (i : Nat) (h : i < l.length) (g : Int → Int) (a : Int) (ha : a = g (rd l (i : Int))) : (l.set i a).take (i + 1) ++ ((l.set i a).drop (i + 1)).map g = l.take i ++ (l.drop i).map g := by
  have h' : i < (l.set i a).length := by rw [List.length_set]; exact h
  rw [List.take_succ_eq_append_getElem h', List.take_set_of_le (Nat.le_refl i), List.getElem_set_self, List.drop_set_of_lt (Nat.lt_succ_self i), List.drop_eq_getElem_cons h, List.map_cons, List.append_assoc, ha, rd_at l i h]
  rfl
/-- What a cell turns to. -/
def opp (s d : Int) : Int := wrap64 (wrap64 (s - 1) - d)
theorem opp_loop (s c : Int) (tb : List Int) (n : Nat) (hn : n ≤ 1000) (m : Nat) : ∀ (d i : Nat) (l : List Int), l.length = n → i + d = n →
    impl_OppositeRule_1.l0 (m + d + 1) (n : Int) (i : Int) l s c tb = (impl_Rule_tells.f m s c tb (l.take i ++ (l.drop i).map (opp s))).bind fun t => some (wrap64 (wrap64 (s - 1) - t)) := by
  intro d
  induction d with
  | zero =>
    intro i l hl hi
    have q1 : ¬ (i : Int) < (n : Int) := by omega
    have e : l.take i ++ (l.drop i).map (opp s) = l := by
      rw [List.drop_eq_nil_of_le (by omega), List.take_of_length_le (by omega)]; simp
    show impl_OppositeRule_1.l0 (m + 1) (n : Int) (i : Int) l s c tb = _
    simp only [impl_OppositeRule_1.l0]
    rw [if_neg q1, e]
  | succ d ih =>
    intro i l hl hi
    have q1 : (i : Int) < (n : Int) := by omega
    have q2 : 0 ≤ (i : Int) := Int.natCast_nonneg i
    have q3 : (i : Int) < (l.length : Int) := by omega
    have q4 : wrap64 ((i : Int) + 1) = ((i + 1 : Nat) : Int) := by unfold wrap64; omega
    have g := ih (i + 1) (l.set i (opp s (rd l (i : Int)))) (by rw [List.length_set]; exact hl) (by omega)
    rw [opp_set l i (by omega) (opp s) _ rfl] at g
    show impl_OppositeRule_1.l0 ((m + d + 1) + 1) (n : Int) (i : Int) l s c tb = _
    simp only [impl_OppositeRule_1.l0]
    rw [if_pos q1, if_pos q2, if_pos q3, q4, show ((i : Nat) : Int).toNat = i from rfl]
    exact g
theorem opp_num (S c : Nat) (hS : S = 2 ∨ S = 3) (hc : c = 0 ∨ c = 1 ∨ c = 2) : ∀ x, x < S ^ (2 * c + 1) → impl_numberOf.f 6 ((digs S (2 * c + 1) x).map (opp (S : Int))) (S : Int) = some ((S ^ (2 * c + 1) - 1 - x : Nat) : Int) := by
  rcases hS with rfl | rfl <;> rcases hc with rfl | rfl | rfl <;> decide +kernel
theorem opp_tell (s c : Int) (tb t : List Int) (v : Int) (k : Nat) (hk : 12 ≤ k) (hl : t.length ≤ 5) (h : impl_numberOf.f 6 (t.map (opp s)) s = some v) (v0 : 0 ≤ v) (v1 : v < (tb.length : Int)) : impl_OppositeRule_1.f k t s c tb = some (opp s (rd tb v)) := by
  obtain ⟨m, rfl⟩ : ∃ m, k = m + t.length + 1 := ⟨k - t.length - 1, by omega⟩
  have g := opp_loop s c tb t.length (by omega) m t.length 0 t rfl (Nat.zero_add _)
  have g2 := at_rounds (fun k => impl_numberOf.mono _ _ k) (show 6 ≤ m by omega) h
  unfold impl_OppositeRule_1.f
  rw [show (0 : Int) = ((0 : Nat) : Int) from rfl, g, List.take_zero, List.drop_zero, List.nil_append]
  unfold impl_Rule_tells.f
  rw [g2]
  simp only [Option.bind_some]
  rw [if_pos v0, if_pos v1]
  rfl
theorem opp_spec (s c : Int) (l : List Int) (N : Nat) (hN : N ≤ 243) (hlN : l.length = N) (d : Nat) : ∀ (k x : Nat) (acc : List Int), x + d = N → acc.length = x → d < k →
    spec_OppositeRule.l0 k (N : Int) (x : Int) s c l s c acc = some (s, c, acc ++ (List.range' x d).map (fun x => opp s (rd l ((N - 1 - x : Nat) : Int))), true) := by
  induction d with
  | zero =>
    intro k x acc hx ha hk
    obtain ⟨k, rfl⟩ : ∃ m, k = m + 1 := ⟨k - 1, by omega⟩
    have q1 : ¬ (x : Int) < (N : Int) := by omega
    simp only [spec_OppositeRule.l0]
    rw [if_neg q1]
    simp
  | succ d ih =>
    intro k x acc hx ha hk
    obtain ⟨k, rfl⟩ : ∃ m, k = m + 1 := ⟨k - 1, by omega⟩
    have q1 : (x : Int) < (N : Int) := by omega
    have q2 : acc.length < 17592186044416 := by omega
    have q3 : wrap64 ((x : Int) + 1) = ((x + 1 : Nat) : Int) := by unfold wrap64; omega
    have q4 : wrap64 (wrap64 ((N : Int) - 1) - (x : Int)) = ((N - 1 - x : Nat) : Int) := by unfold wrap64; omega
    have q5 : 0 ≤ ((N - 1 - x : Nat) : Int) := Int.natCast_nonneg _
    have q6 : ((N - 1 - x : Nat) : Int) < (l.length : Int) := by omega
    have g3 := ih k (x + 1) (acc ++ [opp s (rd l ((N - 1 - x : Nat) : Int))]) (by omega) (by simp; omega) (by omega)
    simp only [spec_OppositeRule.l0]
    rw [if_pos q1, q4, if_pos q5, if_pos q6, if_pos q2, q3]
    rw [List.range'_succ, List.map_cons]
    rw [show acc ++ (opp s (rd l ((N - 1 - x : Nat) : Int)) :: (List.range' (x + 1) d).map (fun x => opp s (rd l ((N - 1 - x : Nat) : Int)))) = (acc ++ [opp s (rd l ((N - 1 - x : Nat) : Int))]) ++ (List.range' (x + 1) d).map (fun x => opp s (rd l ((N - 1 - x : Nat) : Int))) by rw [List.append_assoc]; rfl]
    exact g3
theorem opp_both (S c : Nat) (l : List Int) (N L : Nat) (hN : N ≤ 243) (hlN : l.length = N) (hL : L ≤ 5) (h4 : wrap64 (wrap64 (2 * (c : Int)) + 1) = (L : Int)) (hdg : ∀ x, x < N → ∀ k, 12 ≤ k → impl_digitsOf.f k (x : Int) (S : Int) (L : Int) = some (digs S L x))
    (hnum : ∀ x, x < N → impl_numberOf.f 6 ((digs S L x).map (opp (S : Int))) (S : Int) = some ((N - 1 - x : Nat) : Int)) (k : Nat) (hk : N + 14 < k) :
    ∃ y, spec_OppositeRule.l0 k (N : Int) 0 S c l S c [] = some ((S : Int), (c : Int), y, true) ∧
      impl_made.l0 (fun k_ l_ => impl_OppositeRule_1.f k_ l_ S c l) k S (N : Int) 0 S c [] = some ((S : Int), (c : Int), y) ∧ y.length ≤ 243 := by
  refine ⟨[] ++ (List.range' 0 N).map (fun x => opp (S : Int) (rd l ((N - 1 - x : Nat) : Int))), ?_, ?_, by simp; exact hN⟩
  · exact opp_spec (S : Int) (c : Int) l N hN hlN N k 0 [] (Nat.zero_add N) rfl (by omega)
  · refine made_gen _ (S : Int) (c : Int) (L : Int) N hN h4 (fun x => opp (S : Int) (rd l ((N - 1 - x : Nat) : Int))) ?_ N k 0 [] (Nat.zero_add N) rfl hk
    intro x hx
    refine ⟨digs S L x, hdg x hx, fun k hk => ?_⟩
    exact opp_tell (S : Int) (c : Int) l (digs S L x) _ k hk (by rw [digs_len]; exact hL) (hnum x hx) (Int.natCast_nonneg _) (by omega)

open Go.Proofs.Ytcigmgocllnhfaa.Va in
theorem opp_same (s c : Int) (l : List Int) (hs : I64 s) (hc : I64 c) (hn : l.length ≤ 140737488351232) (k : Nat) (hk : l.length + 300 < k) :
    ∃ (s' r' : Int) (y : List Int) (b : Bool), spec_OppositeRule.f k s c l = some (s', r', y, b) ∧ impl_OppositeRule.f k s c l = some (s', r', y, b) ∧ y.length ≤ 243 := by
  unfold spec_OppositeRule.f impl_OppositeRule.f
  rw [is_f s c l hs hc hn, valid_f s c l hn _ (by omega)]
  simp only [Option.bind_some]
  cases hv : validB s c l with
  | false => exact ⟨_, _, _, _, rfl, rfl, by simp⟩
  | true =>
    have hv2 := hv
    unfold validB at hv2
    simp only [Bool.and_eq_true, decide_eq_true_eq] at hv2
    obtain ⟨hs2, hc2, hl, -⟩ := hv2
    obtain ⟨S, rfl⟩ : ∃ S : Nat, s = S := ⟨s.toNat, by omega⟩
    obtain ⟨C, rfl⟩ : ∃ C : Nat, c = C := ⟨c.toNat, by omega⟩
    have hS : S = 2 ∨ S = 3 := by omega
    have hC : C = 0 ∨ C = 1 ∨ C = 2 := by omega
    have F := powFacts S C hS hC
    have hlN : l.length = S ^ (2 * C + 1) := by
      rw [show (2 * (C : Int) + 1).toNat = 2 * C + 1 by omega] at hl
      exact Int.ofNat.inj (hl.trans (Int.natCast_pow _ _).symm)
    have hnum := opp_num S C hS hC
    have hN := F.hp
    have hL5 := F.hl
    have hra := at_rounds (fun k => impl_raised.mono _ _ k) (show 12 ≤ k by omega) F.ra
    have e3 : wrap64 (wrap64 (2 * (C : Int)) + 1) = ((2 * C + 1 : Nat) : Int) := by unfold wrap64; omega
    clear hl F
    revert hlN hra hnum hN
    generalize S ^ (2 * C + 1) = N
    revert e3 hL5
    generalize 2 * C + 1 = L
    intro hL5 e3 hlN hnum hN hra
    obtain ⟨y, y1, y2, y3⟩ := opp_both S C l N L hN hlN hL5 e3 (fun x hx k hk => impl_digits_f S hS L x k (by omega) (by omega) (by omega)) hnum k (by omega)
    have hlI : (l.length : Int) = (N : Int) := by omega
    simp only [if_true]
    rw [hlI, y1]
    unfold impl_made.f impl_Rule_cells.f
    simp only [Option.bind_some]
    rw [e3, hra]
    simp only [Option.bind_some]
    rw [y2]
    exact ⟨_, _, _, _, rfl, rfl, y3⟩

theorem FnExactOppositeRule (s c : Int) (l : List Int) (hs : I64 s) (hc : I64 c) (hn : l.length ≤ 9223372036854775807) : ∃ k, laws_FnExactOppositeRule.f k s c l = some true := by
  obtain ⟨K, hK⟩ : ∃ K, K = l.length + 301 := ⟨_, rfl⟩
  refine ⟨K + 3, ?_⟩
  unfold laws_FnExactOppositeRule.f
  rw [sz_f s c l hn 1048576 (by omega)]
  simp only [Option.bind_some]
  by_cases h : (l.length : Int) ≤ 1048576
  · obtain ⟨s', r', y, b, h1, h2, hy⟩ := opp_same s c l hs hc (by omega) (K + 3) (by omega)
    obtain ⟨s2, r2, y2, b2, g1, g2, -⟩ := opp_same s c l hs hc (by omega) (K + 1) (by omega)
    have e := at_rounds (fun k => spec_OppositeRule.mono s c l k) (show K + 1 ≤ K + 3 by omega) g1
    rw [h1] at e
    obtain ⟨rfl, rfl, rfl, rfl⟩ : s' = s2 ∧ r' = r2 ∧ y = y2 ∧ b = b2 := by simpa using e
    have hbb : (b != b) = false := by cases b <;> rfl
    obtain ⟨m0, hm1, hm2, hm3⟩ := markRule_f s c l (by omega) (K + 2) (by omega)
    obtain ⟨m, gm1, gm2, gm3⟩ := markRule_f s' r' y (by omega) (K + 1) (by omega)
    have hh := heldRule_f s' r' m (by omega) gm3 (K + 1) (by omega)
    have hh' := heldRule_f s' r' m (by omega) gm3 K (by omega)
    rw [gm2] at hh hh'
    rw [if_pos h, if_neg (by omega), toRule_f s c l (by omega) _ (by omega)]
    simp only [Option.bind_some, h1, h2, eqRule_f s' r' y (by omega) (K + 3) (by omega), if_true, laws_FnExactOppositeRule.j0, hbb, Bool.false_eq_true, if_false, toRule_f s c l (by omega) (K + 2) (by omega), eqRule_f s c l (by omega) (K + 2) (by omega), hm1]
    rw [if_neg (by omega)]
    simp only [Option.bind_some, eqRule_f s' r' y (by omega) (K + 2) (by omega), if_true, laws_FnExactOppositeRule.j1, hbb, Bool.false_eq_true, if_false, gm1, hh]
    rw [if_neg (by omega)]
    simp only [toRule_f s c l (by omega) (K + 1) (by omega), Option.bind_some, g2, eqRule_f s' r' y (by omega) (K + 1) (by omega), if_true, laws_FnExactOppositeRule.j2, hbb, Bool.false_eq_true, if_false, hh']
    rw [if_neg (by omega)]
  · rw [if_neg h, if_pos (by omega)]

end Go.Proofs.Ytcigmgocllnhfaa.Pure
