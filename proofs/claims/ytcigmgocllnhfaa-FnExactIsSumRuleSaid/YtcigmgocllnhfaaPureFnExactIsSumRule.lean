/- The plain law of FnExactIsSumRule, over the functions beside: program and reference answer alike. No condition beyond the stated bounds. -/
import Derived.Test.YtcigmgocllnhfaaQFnExactIsSumRulex6
namespace Go.Proofs.Ytcigmgocllnhfaa.Pure
open Go.RowKit Go.Proofs.Ytcigmgocllnhfaa.QFnExactIsSumRule Go.Proofs.YtcigmgocllnhfaaW.PrintWords Go.Proofs.YtcigmgocllnhfaaW.PrintLast
set_option linter.unusedSimpArgs false
set_option linter.unusedVariables false

namespace FnExactIsSumRuleParts
theorem eq_loop (x0 : List Int) (hn : x0.length ≤ 140737488351232) (d : Nat) : ∀ (k : Nat) (i : Int), 0 ≤ i → (x0.length : Int) - i = d → d < k → laws_eqInt64S.l0 k x0 x0 i = some true := by
  induction d with
  | zero =>
    intro k i h0 hd hk
    obtain ⟨k, rfl⟩ : ∃ m, k = m + 1 := ⟨k - 1, by omega⟩
    simp only [laws_eqInt64S.l0]
    rw [if_neg (by omega)]
  | succ d ih =>
    intro k i h0 hd hk
    obtain ⟨k, rfl⟩ : ∃ m, k = m + 1 := ⟨k - 1, by omega⟩
    simp only [laws_eqInt64S.l0]
    rw [if_pos (by omega), if_pos h0, if_pos (by omega), if_pos trivial, show wrap64 (i + 1) = i + 1 by unfold wrap64; omega]
    exact ih k (i + 1) (by omega) (by omega) (by omega)

theorem eq_f (x0 : List Int) (hn : x0.length ≤ 140737488351232) (k : Nat) (hk : x0.length < k) : laws_eqInt64S.f k x0 x0 = some true := by
  unfold laws_eqInt64S.f
  rw [if_pos rfl]
  exact eq_loop x0 hn x0.length k 0 (by omega) (by omega) hk

theorem rd_get (x : List Int) (i : Int) (h0 : 0 ≤ i) (h : i < (x.length : Int)) : x[i.toNat]? = some (rd x i) := by
  unfold rd
  rw [List.getD_eq_getElem?_getD, List.getElem?_eq_getElem (by omega)]
  rfl

theorem wrap_up {i : Int} {n : Nat} (h0 : 0 ≤ i) (h : i < (n : Int)) (hn : n ≤ 140737488351232) : wrap64 (i + 1) = i + 1 := by
  unfold wrap64; omega

theorem copy_loop (x0 : List Int) (hn : x0.length ≤ 140737488351232) (d : Nat) : ∀ (k : Nat) (x3 : List Int) (i : Int), 0 ≤ i → (x0.length : Int) - i = d → x3.length = x0.length →
    (∀ j : Nat, (j : Int) < i → x3[j]? = x0[j]?) → d < k → laws_toInt64S.l0 k x0 x3 i = some x0 := by
  induction d with
  | zero =>
    intro k x3 i h0 hd hl hj hk
    obtain ⟨k, rfl⟩ : ∃ m, k = m + 1 := ⟨k - 1, by omega⟩
    simp only [laws_toInt64S.l0]
    rw [if_neg (by omega)]
    congr 1
    apply List.ext_getElem?
    intro j
    by_cases h : (j : Int) < i
    · exact hj j h
    · rw [List.getElem?_eq_none (by omega), List.getElem?_eq_none (by omega)]
  | succ d ih =>
    intro k x3 i h0 hd hl hj hk
    obtain ⟨k, rfl⟩ : ∃ m, k = m + 1 := ⟨k - 1, by omega⟩
    simp only [laws_toInt64S.l0]
    rw [if_pos (by omega), if_pos h0, if_pos (by omega), wrap_up (n := x0.length) h0 (by omega) hn]
    refine ih k _ (i + 1) (by omega) (by omega) (by simpa using hl) ?_ (by omega)
    intro j hlt
    rw [List.getElem?_set]
    by_cases h : i.toNat = j
    · subst h
      rw [if_pos rfl, if_pos (by omega), rd_get x0 i h0 (by omega)]
    · rw [if_neg h]
      exact hj j (by omega)

theorem copy_f (x0 : List Int) (hn : x0.length * 8 ≤ 140737488351232) (k : Nat) (hk : x0.length < k) : laws_toInt64S.f k x0 = some x0 := by
  unfold laws_toInt64S.f
  rw [if_pos (by omega), if_pos (by omega)]
  exact copy_loop x0 (by omega) x0.length k _ 0 (by omega) (by omega) (by simp) (by intro j h; omega) hk

theorem in_f (a b c : Int) : spec_l00In.f a b c = some (decide (b ≤ a ∧ a ≤ c)) := by
  unfold spec_l00In.f
  by_cases h : a ≥ b
  · rw [if_pos h]; simp; omega
  · rw [if_neg h]; simp; omega

theorem within_f (a b c : Int) : impl_within.f a b c = some (decide (b ≤ a ∧ a ≤ c)) := by
  unfold impl_within.f
  by_cases h : a ≥ b
  · rw [if_pos h]; simp; omega
  · rw [if_neg h]; simp; omega


open Go.Proofs.Ytcigmgocllnhfaa.Va in
theorem areWithin_f (x : List Int) (hn : x.length ≤ 140737488351232) (t : Int) (d : Nat) : ∀ (k : Nat) (i : Nat), x.length - i = d → i ≤ x.length → d < k →
    impl_areWithin.l0 k 0 (t - 1) x x.length (i : Int) = some (rowB t (x.drop i)) := by
  induction d with
  | zero =>
    intro k i hd hi hk
    obtain ⟨k, rfl⟩ : ∃ m, k = m + 1 := ⟨k - 1, by omega⟩
    simp only [impl_areWithin.l0]
    rw [if_neg (by omega), show i = x.length by omega, List.drop_length]
    rfl
  | succ d ih =>
    intro k i hd hi hk
    obtain ⟨k, rfl⟩ : ∃ m, k = m + 1 := ⟨k - 1, by omega⟩
    simp only [impl_areWithin.l0, if_pos (show (i : Int) < (x.length : Int) by omega), if_pos (show 0 ≤ (i : Int) by omega), within_f, Option.bind_some, show wrap64 ((i : Int) + 1) = ((i + 1 : Nat) : Int) by unfold wrap64; omega]
    rw [rowB_drop t x i (by omega)]
    cases hb : decide (0 ≤ rd x (i : Int) ∧ rd x (i : Int) ≤ t - 1) with
    | true => simp only [if_true, Bool.true_and]; exact ih k (i + 1) (by omega) (by omega) (by omega)
    | false => simp only [Bool.false_eq_true, if_false, Bool.false_and]

theorem raised_f (k : Nat) (hk : 8 ≤ k) : impl_raised.f k 2 1 = some 2 ∧ impl_raised.f k 2 3 = some 8 ∧ impl_raised.f k 2 5 = some 32 ∧ impl_raised.f k 3 1 = some 3 ∧ impl_raised.f k 3 3 = some 27 ∧ impl_raised.f k 3 5 = some 243 := by
  obtain ⟨k, rfl⟩ : ∃ m, k = m + 8 := ⟨k - 8, by omega⟩
  refine ⟨?_, ?_, ?_, ?_, ?_, ?_⟩ <;> simp [impl_raised.f, impl_raised.l0, wrap64]

open Go.Proofs.Ytcigmgocllnhfaa.Va in
theorem validB_at (s c : Int) (l : List Int) (n : Int) (hs : s = 2 ∨ s = 3) (hc : 0 ≤ c ∧ c ≤ 2) (hn : s ^ (2 * c + 1).toNat = n) : validB s c l = (decide ((l.length : Int) = n) && rowB s l) := by
  unfold validB
  rw [decide_eq_true (show 2 ≤ s ∧ s ≤ 3 by omega), decide_eq_true hc, hn]; rfl

open Go.Proofs.Ytcigmgocllnhfaa.Va in
theorem many_f (s n : Int) (l : List Int) (hs : s = 2 ∨ s = 3) (hn : l.length ≤ 140737488351232) (k : Nat) (hk : l.length < k) : impl_areMany.f k l n n 0 (wrap64 (s - 1)) = some (decide ((l.length : Int) = n) && rowB s l) := by
  have e : wrap64 (s - 1) = s - 1 := by unfold wrap64; omega
  unfold impl_areMany.f impl_areWithin.f
  rw [within_f, e]
  simp only [Option.bind_some]
  have h := areWithin_f l hn s l.length k 0 (by omega) (by omega) hk
  rw [List.drop_zero] at h
  by_cases hl : (l.length : Int) = n
  · rw [decide_eq_true (show n ≤ (l.length : Int) ∧ (l.length : Int) ≤ n by omega), decide_eq_true hl]
    simp only [if_true, Bool.true_and]
    rw [show ((0 : Nat) : Int) = 0 from rfl] at h
    rw [h]; rfl
  · rw [decide_eq_false (show ¬ (n ≤ (l.length : Int) ∧ (l.length : Int) ≤ n) by omega), decide_eq_false hl]
    simp only [Bool.false_eq_true, if_false, Bool.false_and]

open Go.Proofs.Ytcigmgocllnhfaa.Va in
theorem valid_f (s c : Int) (l : List Int) (hn : l.length ≤ 140737488351232) (k : Nat) (hk : l.length + 10 < k) : impl_ValidRule.f k s c l = some (validB s c l) := by
  obtain ⟨k, rfl⟩ : ∃ m, k = m + 1 := ⟨k - 1, by omega⟩
  unfold impl_ValidRule.f impl_areStates.f impl_isReach.f
  rw [within_f]
  by_cases hs : s = 2 ∨ s = 3
  · have e2 : (if s = 2 then some true else some (s == 3)) = some true := by rcases hs with rfl | rfl <;> rfl
    rw [e2]
    simp only [Option.bind_some, if_true]
    by_cases hc : 0 ≤ c ∧ c ≤ 2
    · rw [decide_eq_true hc]
      simp only [Bool.not_true, impl_ValidRule.j0, Bool.false_eq_true, if_false, impl_Rule_cells.f, Option.bind_some]
      have hr := raised_f k (by omega)
      have hc3 : c = 0 ∨ c = 1 ∨ c = 2 := by omega
      have w0 : wrap64 (wrap64 (2 * 0) + 1) = 1 := by unfold wrap64; omega
      have w1 : wrap64 (wrap64 (2 * 1) + 1) = 3 := by unfold wrap64; omega
      have w2 : wrap64 (wrap64 (2 * 2) + 1) = 5 := by unfold wrap64; omega
      have key : ∀ n : Int, s ^ (2 * c + 1).toNat = n → impl_raised.f k s (wrap64 (wrap64 (2 * c) + 1)) = some n →
          ((impl_raised.f k s (wrap64 (wrap64 (2 * c) + 1))).bind fun t137 => (impl_areMany.f k l t137 t137 0 (wrap64 (s - 1))).bind fun t138 => some t138) = some (validB s c l) := by
        intro n h1 h2
        rw [h2]
        simp only [Option.bind_some]
        rw [many_f s n l hs hn k (by omega), validB_at s c l n hs hc h1]
        rfl
      rcases hs with rfl | rfl <;> rcases hc3 with rfl | rfl | rfl
      · exact key 2 (by decide) (by rw [w0]; exact hr.1)
      · exact key 8 (by decide) (by rw [w1]; exact hr.2.1)
      · exact key 32 (by decide) (by rw [w2]; exact hr.2.2.1)
      · exact key 3 (by decide) (by rw [w0]; exact hr.2.2.2.1)
      · exact key 27 (by decide) (by rw [w1]; exact hr.2.2.2.2.1)
      · exact key 243 (by decide) (by rw [w2]; exact hr.2.2.2.2.2)
    · rw [decide_eq_false hc]
      simp only [Bool.not_false, impl_ValidRule.j0, if_true]
      unfold validB
      rw [decide_eq_false hc]; simp
  · have h2 : ¬ s = 2 := by omega
    have h3 : (s == 3) = false := by simp; omega
    rw [if_neg h2, h3]
    simp only [Option.bind_some, Bool.false_eq_true, if_false, impl_ValidRule.j0, if_true]
    unfold validB
    rw [decide_eq_false (show ¬ (2 ≤ s ∧ s ≤ 3) by omega)]; rfl

/-- Both bounds of a whole number of 64 bits. -/
def I64 (x : Int) : Prop := -9223372036854775808 ≤ x ∧ x ≤ 9223372036854775807

open Go.Proofs.Ytcigmgocllnhfaa.Va in
theorem is_f (s c : Int) (l : List Int) (hs : I64 s) (hc : I64 c) (hn : l.length ≤ 140737488351232) (k : Nat) : spec_l02Is.f k s c l = some (validB s c l) := by
  unfold spec_l02Is.f
  rw [if_pos ⟨hs, hc, hn⟩]

theorem sz_f (s c : Int) (l : List Int) (hn : l.length ≤ 9223372036854775807) (b : Int) (hb : 0 ≤ b ∧ b ≤ 1048576) : laws_szRule.f s c l b = some (if (l.length : Int) ≤ b then b - l.length else -1) := by
  unfold laws_szRule.f laws_szInt64S.f
  have e : wrap64 (b - (l.length : Int)) = b - l.length := by unfold wrap64; omega
  rw [e]
  by_cases h : (l.length : Int) ≤ b
  · rw [if_neg (by omega), if_pos h]; simp only [Option.bind_some]; rw [if_neg (by omega)]
  · rw [if_pos (by omega), if_neg h]; rfl

theorem toRule_f (s c : Int) (l : List Int) (hn : l.length ≤ 1048576) (k : Nat) (hk : l.length < k) : laws_toRule.f k s c l = some (s, c, l) := by
  unfold laws_toRule.f
  rw [copy_f l (by omega) k hk]; rfl

theorem eqRule_f (s r : Int) (x : List Int) (hn : x.length ≤ 140737488351232) (k : Nat) (hk : x.length < k) : laws_eqRule.f k s r x s r x = some true := by
  unfold laws_eqRule.f
  rw [if_pos rfl, if_pos rfl, eq_f x hn k hk]
  rfl

/-- The digits of a number, the greatest one first. -/
def digs (s : Nat) : Nat → Nat → List Int
  | 0, _ => []
  | n + 1, x => digs s n (x / s) ++ [((x % s : Nat) : Int)]
theorem digs_len (s : Nat) : ∀ n x, (digs s n x).length = n
  | 0, _ => rfl
  | n + 1, x => by simp [digs, digs_len s n]
theorem digs_lt (s : Nat) (hs : 0 < s) : ∀ n x, ∀ y ∈ digs s n x, 0 ≤ y ∧ y ≤ (s : Int) - 1
  | 0, _ => by simp [digs]
  | n + 1, x => by
    intro y hy
    rcases List.mem_append.mp hy with h | h
    · exact digs_lt s hs n _ y h
    · have h' : y = ((x % s : Nat) : Int) := by simpa using h
      subst h'
      have := Nat.mod_lt x hs
      omega
theorem spec_digits_loop (s : Nat) (hs : s = 2 ∨ s = 3) : ∀ (n k x : Nat) (l : List Int), x ≤ 1000000 → n ≤ l.length → n ≤ 1000 → n < k → spec_l02Digits.l0 k (x : Int) (s : Int) l ((n : Int) - 1) = some (digs s n x ++ l.drop n) := by
  intro n
  induction n with
  | zero =>
    intro k x l hx hl hn hk
    obtain ⟨k, rfl⟩ : ∃ m, k = m + 1 := ⟨k - 1, by omega⟩
    simp only [spec_l02Digits.l0]
    rw [if_neg (by omega)]
    rfl
  | succ n ih =>
    intro k x l hx hl hn hk
    obtain ⟨k, rfl⟩ : ∃ m, k = m + 1 := ⟨k - 1, by omega⟩
    have ed : Int.tdiv (x : Int) (s : Int) = ((x / s : Nat) : Int) := rfl
    have em : Int.tmod (x : Int) (s : Int) = ((x % s : Nat) : Int) := rfl
    have hd : x / s ≤ x := Nat.div_le_self _ _
    have he : digs s (n + 1) x = digs s n (x / s) ++ [((x % s : Nat) : Int)] := rfl
    rw [he]
    clear he
    revert ed em hd
    generalize x / s = q
    generalize x % s = z
    intro ed em hd
    simp only [spec_l02Digits.l0]
    rw [if_pos (by omega), if_neg (by omega), if_pos (by omega), if_pos (by omega), ed, em, show wrap64 (q : Int) = (q : Int) by unfold wrap64; omega, show wrap64 (((n + 1 : Nat) : Int) - 1 - 1) = ((n : Nat) : Int) - 1 by unfold wrap64; omega, show (((n + 1 : Nat) : Int) - 1).toNat = n by omega]
    rw [ih k q (l.set n (z : Int)) (by omega) (by simp; omega) (by omega) (by omega)]
    congr 1
    rw [List.append_assoc]
    congr 1
    rw [List.drop_eq_getElem_cons (by simp; omega), List.drop_set_of_lt (by omega)]
    simp
theorem spec_digits_f (s : Nat) (hs : s = 2 ∨ s = 3) (n x k : Nat) (hx : x ≤ 1000000) (hn : n ≤ 1000) (hk : n < k) : spec_l02Digits.f k (x : Int) (s : Int) (n : Int) = some (digs s n x) := by
  unfold spec_l02Digits.f
  rw [if_pos (by omega), show ((n : Nat) : Int).toNat = n by omega, if_pos (by omega), show wrap64 ((n : Int) - 1) = (n : Int) - 1 by unfold wrap64; omega]
  rw [spec_digits_loop s hs n k x (List.replicate n 0) hx (by simp) hn hk]
  simp
theorem impl_digits_loop (s : Nat) (hs : s = 2 ∨ s = 3) : ∀ (n k x : Nat) (l : List Int), x ≤ 1000000 → n ≤ l.length → n ≤ 1000 → n < k → impl_digitsOf.l0 k (x : Int) (s : Int) l ((n : Int) - 1) = some (digs s n x ++ l.drop n) := by
  intro n
  induction n with
  | zero =>
    intro k x l hx hl hn hk
    obtain ⟨k, rfl⟩ : ∃ m, k = m + 1 := ⟨k - 1, by omega⟩
    simp only [impl_digitsOf.l0]
    rw [if_neg (by omega)]
    rfl
  | succ n ih =>
    intro k x l hx hl hn hk
    obtain ⟨k, rfl⟩ : ∃ m, k = m + 1 := ⟨k - 1, by omega⟩
    have ed : Int.tdiv (x : Int) (s : Int) = ((x / s : Nat) : Int) := rfl
    have em : Int.tmod (x : Int) (s : Int) = ((x % s : Nat) : Int) := rfl
    have hd : x / s ≤ x := Nat.div_le_self _ _
    have he : digs s (n + 1) x = digs s n (x / s) ++ [((x % s : Nat) : Int)] := rfl
    rw [he]
    clear he
    revert ed em hd
    generalize x / s = q
    generalize x % s = z
    intro ed em hd
    simp only [impl_digitsOf.l0]
    rw [if_pos (by omega), if_neg (by omega), if_pos (by omega), if_pos (by omega), ed, em, show wrap64 (q : Int) = (q : Int) by unfold wrap64; omega, show wrap64 (((n + 1 : Nat) : Int) - 1 - 1) = ((n : Nat) : Int) - 1 by unfold wrap64; omega, show (((n + 1 : Nat) : Int) - 1).toNat = n by omega]
    rw [ih k q (l.set n (z : Int)) (by omega) (by simp; omega) (by omega) (by omega)]
    congr 1
    rw [List.append_assoc]
    congr 1
    rw [List.drop_eq_getElem_cons (by simp; omega), List.drop_set_of_lt (by omega)]
    simp
theorem impl_digits_f (s : Nat) (hs : s = 2 ∨ s = 3) (n x k : Nat) (hx : x ≤ 1000000) (hn : n ≤ 1000) (hk : n < k) : impl_digitsOf.f k (x : Int) (s : Int) (n : Int) = some (digs s n x) := by
  unfold impl_digitsOf.f
  rw [if_pos (by omega), show ((n : Nat) : Int).toNat = n by omega, if_pos (by omega), show wrap64 ((n : Int) - 1) = (n : Int) - 1 by unfold wrap64; omega]
  rw [impl_digits_loop s hs n k x (List.replicate n 0) hx (by simp) hn hk]
  simp

structure PowFacts (s long : Nat) : Prop where
  hs : s = 2 ∨ s = 3
  hl : long ≤ 5
  hp : s ^ long ≤ 243
  pw : spec_l02Powers.f 12 (s : Int) (long : Int) = some ((s ^ long : Nat) : Int)
  ra : impl_raised.f 12 (s : Int) (long : Int) = some ((s ^ long : Nat) : Int)
theorem powFacts21 : PowFacts 2 1 := ⟨by decide, by decide, by decide, by decide +kernel, by decide +kernel⟩
theorem powFacts23 : PowFacts 2 3 := ⟨by decide, by decide, by decide, by decide +kernel, by decide +kernel⟩
theorem powFacts25 : PowFacts 2 5 := ⟨by decide, by decide, by decide, by decide +kernel, by decide +kernel⟩
theorem powFacts31 : PowFacts 3 1 := ⟨by decide, by decide, by decide, by decide +kernel, by decide +kernel⟩
theorem powFacts33 : PowFacts 3 3 := ⟨by decide, by decide, by decide, by decide +kernel, by decide +kernel⟩
theorem powFacts35 : PowFacts 3 5 := ⟨by decide, by decide, by decide, by decide +kernel, by decide +kernel⟩
theorem powFacts (s r : Nat) (hs : s = 2 ∨ s = 3) (hr : r = 0 ∨ r = 1 ∨ r = 2) : PowFacts s (2 * r + 1) := by
  rcases hs with rfl | rfl <;> rcases hr with rfl | rfl | rfl
  · exact powFacts21
  · exact powFacts23
  · exact powFacts25
  · exact powFacts31
  · exact powFacts33
  · exact powFacts35

/-- impl.made's loop, over variables alone. -/
theorem made_gen (tell : Nat → List Int → Option Int) (s r long : Int) (N : Nat) (hN : N ≤ 243) (h4 : wrap64 (wrap64 (2 * r) + 1) = long) (val : Nat → Int)
    (hst : ∀ x, x < N → ∃ t, (∀ k, 12 ≤ k → impl_digitsOf.f k (x : Int) s long = some t) ∧ ∀ k, 12 ≤ k → tell k t = some (val x)) (d : Nat) : ∀ (k x : Nat) (acc : List Int), x + d = N → acc.length = x → d + 14 < k →
    impl_made.l0 tell k s (N : Int) (x : Int) s r acc = some (s, r, acc ++ (List.range' x d).map val) := by
  induction d with
  | zero =>
    intro k x acc hx ha hk
    obtain ⟨k, rfl⟩ : ∃ m, k = m + 1 := ⟨k - 1, by omega⟩
    have q1 : ¬ (x : Int) < (N : Int) := by omega
    simp only [impl_made.l0]
    rw [if_neg q1]
    simp
  | succ d ih =>
    intro k x acc hx ha hk
    obtain ⟨k, rfl⟩ : ∃ m, k = m + 1 := ⟨k - 1, by omega⟩
    have hxN : x < N := by omega
    have q1 : (x : Int) < (N : Int) := by omega
    have q2 : acc.length < 17592186044416 := by omega
    have q3 : wrap64 ((x : Int) + 1) = ((x + 1 : Nat) : Int) := by unfold wrap64; omega
    obtain ⟨t, h1, h2⟩ := hst x hxN
    have g1 := h1 k (by omega)
    have g2 := h2 k (by omega)
    have g3 := ih k (x + 1) (acc ++ [val x]) (by omega) (by simp; omega) (by omega)
    simp only [impl_made.l0, impl_Rule_cells.f]
    rw [if_pos q1]
    simp only [Option.bind_some]
    rw [h4, g1]
    simp only [Option.bind_some]
    rw [g2]
    simp only [Option.bind_some]
    rw [if_pos q2, q3, g3, List.range'_succ, List.map_cons, List.append_assoc]
    rfl

/-- The sum of products, as it is built. -/
def dotL (w t : List Int) : Nat → Int → Nat → Int
  | _, a, 0 => a
  | i, a, d + 1 => dotL w t (i + 1) (wrap64 (a + wrap64 (rd w (i : Int) * rd t (i : Int)))) d
theorem spec_w_inner (s x5 x7 : Int) (w t : List Int) (hs : s ≠ 0) (hw : w.length = t.length) (hl : t.length ≤ 1000) (b0 b1 : Int) (b2 : List Int) (hb : b2.length < 17592186044416) (m : Nat) : ∀ (d i : Nat) (a : Int), i + d = t.length →
    spec_l02Weighed.l1 (m + d + 1) s w x5 x7 t a (i : Int) b0 b1 b2 = spec_l02Weighed.l0 m s w x5 (wrap64 (x7 + 1)) b0 b1 (b2 ++ [Int.tmod (dotL w t i a d) s]) := by
  intro d
  induction d with
  | zero =>
    intro i a hi
    have q1 : ¬ (i : Int) < (t.length : Int) := by omega
    show spec_l02Weighed.l1 (m + 1) s w x5 x7 t a (i : Int) b0 b1 b2 = _
    simp only [spec_l02Weighed.l1]
    rw [if_neg q1, if_neg hs, if_pos hb]
    rfl
  | succ d ih =>
    intro i a hi
    have q1 : (i : Int) < (t.length : Int) := by omega
    have q2 : 0 ≤ (i : Int) := Int.natCast_nonneg i
    have q3 : (i : Int) < (w.length : Int) := by omega
    have q4 : wrap64 ((i : Int) + 1) = ((i + 1 : Nat) : Int) := by unfold wrap64; omega
    show spec_l02Weighed.l1 ((m + d + 1) + 1) s w x5 x7 t a (i : Int) b0 b1 b2 = _
    simp only [spec_l02Weighed.l1]
    rw [if_pos q1, if_pos q2, if_pos q3, q4]
    exact ih (i + 1) _ (by omega)
theorem impl_w_inner (s : Int) (w t : List Int) (hs : s ≠ 0) (hw : w.length = t.length) (hl : t.length ≤ 1000) : ∀ (d k i : Nat) (a : Int), i + d = t.length → d < k →
    impl_weighed_1.l0 k t s a w (w.length : Int) (i : Int) = some (Int.tmod (dotL w t i a d) s) := by
  intro d
  induction d with
  | zero =>
    intro k i a hi hk
    obtain ⟨k, rfl⟩ : ∃ m, k = m + 1 := ⟨k - 1, by omega⟩
    have q1 : ¬ (i : Int) < (w.length : Int) := by omega
    simp only [impl_weighed_1.l0]
    rw [if_neg q1, if_neg hs]
    rfl
  | succ d ih =>
    intro k i a hi hk
    obtain ⟨k, rfl⟩ : ∃ m, k = m + 1 := ⟨k - 1, by omega⟩
    have q1 : (i : Int) < (t.length : Int) := by omega
    have q2 : 0 ≤ (i : Int) := Int.natCast_nonneg i
    have q3 : (i : Int) < (w.length : Int) := by omega
    have q4 : wrap64 ((i : Int) + 1) = ((i + 1 : Nat) : Int) := by unfold wrap64; omega
    simp only [impl_weighed_1.l0]
    rw [if_pos q3, if_pos q2, if_pos q3, if_pos q1, q4]
    exact ih k (i + 1) _ (by omega) (by omega)
theorem spec_w_loop (s : Int) (hs : s ≠ 0) (w : List Int) (L N : Nat) (hL : w.length = L) (hL5 : L ≤ 1000) (hN : N ≤ 243) (T : Nat → List Int) (hT : ∀ x, (T x).length = L)
    (pw : ∀ k, 12 ≤ k → spec_l02Powers.f k s (L : Int) = some (N : Int)) (dg : ∀ x, x < N → ∀ k, 12 ≤ k → spec_l02Digits.f k (x : Int) s (L : Int) = some (T x)) (b0 b1 : Int) (d : Nat) : ∀ (x : Nat) (acc : List Int) (k : Nat), x + d = N → acc.length = x → d * (L + 2) + 14 ≤ k →
    spec_l02Weighed.l0 k s w (L : Int) (x : Int) b0 b1 acc = some (b0, b1, acc ++ (List.range' x d).map fun x => Int.tmod (dotL w (T x) 0 0 L) s) := by
  induction d with
  | zero =>
    intro x acc k hx ha hk
    obtain ⟨k, rfl⟩ : ∃ m, k = m + 1 := ⟨k - 1, by omega⟩
    have q1 : ¬ (x : Int) < (N : Int) := by omega
    have g := pw k (by omega)
    simp only [spec_l02Weighed.l0]
    rw [g]
    simp only [Option.bind_some]
    rw [if_neg q1]
    simp
  | succ d ih =>
    intro x acc k hx ha hk
    have hk' : d * (L + 2) + (L + 2) + 14 ≤ k := by rw [Nat.succ_mul] at hk; exact hk
    obtain ⟨m, rfl⟩ : ∃ m, k = (m + L + 1) + 1 := ⟨k - (L + 2), by omega⟩
    have q0 : x < N := by omega
    have q1 : (x : Int) < (N : Int) := by omega
    have q2 : acc.length < 17592186044416 := by omega
    have q3 : wrap64 ((x : Int) + 1) = ((x + 1 : Nat) : Int) := by unfold wrap64; omega
    have g := pw (m + L + 1) (by omega)
    have g2 := dg x q0 (m + L + 1) (by omega)
    have g3 := spec_w_inner s (L : Int) (x : Int) w (T x) hs (by rw [hT, hL]) (by rw [hT]; exact hL5) b0 b1 acc q2 m L 0 0 (by rw [hT, Nat.zero_add])
    have g4 := ih (x + 1) (acc ++ [Int.tmod (dotL w (T x) 0 0 L) s]) m (by omega) (by simp; omega) (by omega)
    rw [show ((0 : Nat) : Int) = 0 from rfl] at g3
    simp only [spec_l02Weighed.l0]
    rw [g]
    simp only [Option.bind_some]
    rw [if_pos q1, g2]
    simp only [Option.bind_some]
    rw [g3, q3, g4, List.range'_succ, List.map_cons, List.append_assoc]
    rfl
theorem weighed_same (s R : Nat) (hs : s = 2 ∨ s = 3) (hR : R = 0 ∨ R = 1 ∨ R = 2) (w : List Int) (hw : w.length = 2 * R + 1) : ∃ y : List Int, y.length ≤ 243 ∧ y.length = s ^ (2 * R + 1) ∧
    (∀ k, 1800 ≤ k → spec_l02Weighed.f k (s : Int) w = some ((s : Int), (R : Int), y)) ∧ ∀ k, 1800 ≤ k → impl_weighed.f k (s : Int) w = some ((s : Int), (R : Int), y) := by
  have F := powFacts s R hs hR
  obtain ⟨L, hL⟩ : ∃ L, L = 2 * R + 1 := ⟨_, rfl⟩
  rw [← hL] at F hw
  obtain ⟨N, hN⟩ : ∃ N, N = s ^ L := ⟨_, rfl⟩
  have hp := F.hp
  have fpw := F.pw
  have fra := F.ra
  rw [← hN] at hp fpw fra
  have hl5 := F.hl
  have hs0 : (s : Int) ≠ 0 := by omega
  have hdig : ∀ x, x < N → ∀ k, 12 ≤ k → spec_l02Digits.f k (x : Int) (s : Int) (L : Int) = some (digs s L x) := fun x hx k hk => spec_digits_f s hs L x k (by omega) (by omega) (by omega)
  have hdig2 : ∀ x, x < N → ∀ k, 12 ≤ k → impl_digitsOf.f k (x : Int) (s : Int) (L : Int) = some (digs s L x) := fun x hx k hk => impl_digits_f s hs L x k (by omega) (by omega) (by omega)
  have e1 : wrap64 (Int.tdiv (wrap64 ((L : Int) - 1)) 2) = (R : Int) := by subst hL; rcases hR with rfl | rfl | rfl <;> decide +kernel
  have e2 : wrap64 ((L : Int) / 2) = (R : Int) := by subst hL; rcases hR with rfl | rfl | rfl <;> decide +kernel
  have e3 : wrap64 (wrap64 (2 * (R : Int)) + 1) = (L : Int) := by subst hL; rcases hR with rfl | rfl | rfl <;> decide +kernel
  have hLN : 243 * (L + 2) ≤ 1701 := by omega
  have hNL : N * (L + 2) ≤ 243 * (L + 2) := Nat.mul_le_mul_right _ hp
  refine ⟨(List.range' 0 N).map fun x => Int.tmod (dotL w (digs s L x) 0 0 L) s, by simpa using hp, by rw [← hL, ← hN]; simp, fun k hk => ?_, fun k hk => ?_⟩
  · have g := spec_w_loop (s : Int) hs0 w L N hw (by omega) hp (digs s L) (digs_len s L) (fun k hk => at_rounds (fun k => spec_l02Powers.mono _ _ k) hk fpw) hdig (s : Int) (R : Int) N 0 [] k (Nat.zero_add _) rfl (by omega)
    unfold spec_l02Weighed.f
    rw [hw, e1]
    rw [show ((0 : Nat) : Int) = 0 from rfl] at g
    rw [g, List.nil_append]
  · have g := made_gen (fun k_ l_ => impl_weighed_1.f k_ l_ w (s : Int)) (s : Int) (R : Int) (L : Int) N hp e3 (fun x => Int.tmod (dotL w (digs s L x) 0 0 L) s)
      (fun x hx => ⟨digs s L x, hdig2 x hx, fun k hk => by
        have h := impl_w_inner (s : Int) w (digs s L x) hs0 (by rw [digs_len, hw]) (by rw [digs_len]; omega) L k 0 0 (by rw [digs_len, Nat.zero_add]) (by omega)
        exact h⟩) N k 0 [] (Nat.zero_add _) rfl (by omega)
    rw [show ((0 : Nat) : Int) = 0 from rfl, List.nil_append] at g
    have gra := at_rounds (fun k => impl_raised.mono _ _ k) (show 12 ≤ k by omega) fra
    unfold impl_weighed.f impl_made.f impl_Rule_cells.f
    simp only [Option.bind_some]
    rw [hw, e2, e3, gra]
    simp only [Option.bind_some]
    rw [g]
    rfl

end FnExactIsSumRuleParts
open FnExactIsSumRuleParts

theorem swap_loops (a b : List Int) (hl : a.length = b.length) (hn : a.length ≤ 140737488351232) (d : Nat) : ∀ (k : Nat) (i : Nat), i + d = a.length → d < k →
    ∃ v, spec_l02Equal.l0 k a b (i : Int) = some v ∧ slices_Equal_int64_int64.l0 k b a (b.length : Int) (i : Int) = some v := by
  induction d with
  | zero =>
    intro k i hi hk
    obtain ⟨k, rfl⟩ : ∃ m, k = m + 1 := ⟨k - 1, by omega⟩
    refine ⟨true, ?_, ?_⟩
    · simp only [spec_l02Equal.l0]; rw [if_neg (by omega)]
    · simp only [slices_Equal_int64_int64.l0]; rw [if_neg (by omega)]
  | succ d ih =>
    intro k i hi hk
    obtain ⟨k, rfl⟩ : ∃ m, k = m + 1 := ⟨k - 1, by omega⟩
    have e : wrap64 ((i : Int) + 1) = ((i + 1 : Nat) : Int) := by unfold wrap64; omega
    have q0 : 0 ≤ (i : Int) := Int.natCast_nonneg i
    have qa : (i : Int) < (a.length : Int) := by omega
    have qb : (i : Int) < (b.length : Int) := by omega
    by_cases hx : rd a (i : Int) = rd b (i : Int)
    · obtain ⟨v, h1, h2⟩ := ih k (i + 1) (by omega) (by omega)
      refine ⟨v, ?_, ?_⟩
      · simp only [spec_l02Equal.l0]
        rw [if_pos qa, if_pos q0, if_pos qb, if_pos hx, e]; exact h1
      · simp only [slices_Equal_int64_int64.l0]
        rw [if_pos qb, if_pos q0, if_pos qb, if_pos qa, if_pos hx.symm, e]; exact h2
    · have hx' : ¬ rd b (i : Int) = rd a (i : Int) := fun h => hx h.symm
      refine ⟨false, ?_, ?_⟩
      · simp only [spec_l02Equal.l0]
        rw [if_pos qa, if_pos q0, if_pos qb, if_neg hx]
      · simp only [slices_Equal_int64_int64.l0]
        rw [if_pos qb, if_pos q0, if_pos qb, if_pos qa, if_neg hx']
theorem swap_rules (s c : Int) (a b : List Int) (hl : a.length = b.length) (hn : a.length ≤ 140737488351232) : ∃ v, ∀ k, a.length < k → spec_l02Same.f k s c a s c b = some v ∧ impl_SameRule.f k s c b s c a = some v := by
  obtain ⟨v, h1, h2⟩ := swap_loops a b hl hn a.length (a.length + 1) 0 (by omega) (by omega)
  refine ⟨v, fun k hk => ?_⟩
  have g1 := at_rounds (fun k => (spec_l02Equal.mono_l k) a b ((0 : Nat) : Int)) (show a.length + 1 ≤ k by omega) h1
  have g2 := at_rounds (fun k => (slices_Equal_int64_int64.mono_l k) b a (b.length : Int) ((0 : Nat) : Int)) (show a.length + 1 ≤ k by omega) h2
  rw [show ((0 : Nat) : Int) = 0 from rfl] at g1 g2
  have q1 : (a.length : Int) = (b.length : Int) := by omega
  have q2 : (b.length : Int) = (a.length : Int) := by omega
  unfold spec_l02Same.f impl_SameRule.f spec_l02Equal.f slices_Equal_int64_int64.f
  rw [if_pos rfl, if_pos rfl, if_pos q1, g1, if_pos rfl, if_pos rfl, if_pos q2, g2]
  exact ⟨rfl, rfl⟩
theorem pow_facts (S n : Nat) (hS : S = 2 ∨ S = 3) (hn : n = 0 ∨ n = 1 ∨ n = 2 ∨ n = 3 ∨ n = 4) : spec_l02Powers.f 12 (S : Int) (n : Int) = some ((S ^ n : Nat) : Int) ∧ impl_raised.f 12 (S : Int) (n : Int) = some ((S ^ n : Nat) : Int) := by
  rcases hS with rfl | rfl <;> rcases hn with rfl | rfl | rfl | rfl | rfl <;> exact ⟨by decide +kernel, by decide +kernel⟩
theorem spec_terms (s c : Int) (l : List Int) (L : Nat) (hL : L ≤ 5) (pv : Nat → Int) (hp : ∀ n, n < L → ∀ k, 12 ≤ k → spec_l02Powers.f k s (n : Int) = some (pv n)) (h0 : ∀ n, n < L → 0 ≤ pv n ∧ pv n < (l.length : Int)) (wf y : List Int) (v : Bool)
    (hW : ∀ k, 1800 ≤ k → spec_l02Weighed.f k s wf = some (s, c, y)) (hS : ∀ k, 1800 ≤ k → spec_l02Same.f k s c y s c l = some v) : ∀ (d x : Nat) (acc : List Int) (k : Nat), x + d = L → acc.length = x → acc ++ (List.range' x d).map (fun x => rd l (pv (L - 1 - x))) = wf → d + 1801 ≤ k →
    spec_IsSumRule.l0 k acc (L : Int) (x : Int) s c l = some (v, true) := by
  intro d
  induction d with
  | zero =>
    intro x acc k hx ha hw hk
    obtain ⟨k, rfl⟩ : ∃ m, k = m + 1 := ⟨k - 1, by omega⟩
    have q1 : ¬ (x : Int) < (L : Int) := by omega
    have g1 := hW k (by omega)
    have g2 := hS k (by omega)
    have hw' : acc = wf := by rw [← hw]; simp
    simp only [spec_IsSumRule.l0]
    rw [if_neg q1, hw', g1]
    simp only [Option.bind_some]
    rw [g2]
    rfl
  | succ d ih =>
    intro x acc k hx ha hw hk
    obtain ⟨k, rfl⟩ : ∃ m, k = m + 1 := ⟨k - 1, by omega⟩
    have q1 : (x : Int) < (L : Int) := by omega
    have e1 : wrap64 (wrap64 ((L : Int) - 1) - (x : Int)) = ((L - 1 - x : Nat) : Int) := by unfold wrap64; omega
    have e2 : wrap64 ((x : Int) + 1) = ((x + 1 : Nat) : Int) := by unfold wrap64; omega
    have hb := h0 (L - 1 - x) (by omega)
    have g := hp (L - 1 - x) (by omega) k (by omega)
    have q3 : acc.length < 17592186044416 := by omega
    have gi := ih (x + 1) (acc ++ [rd l (pv (L - 1 - x))]) k (by omega) (by simp; omega) (by rw [← hw, List.range'_succ, List.map_cons, List.append_assoc]; rfl) (by omega)
    simp only [spec_IsSumRule.l0]
    rw [if_pos q1, e1, g]
    simp only [Option.bind_some]
    rw [if_pos hb.1, if_pos hb.2, if_pos q3, e2, gi]
theorem impl_terms (s c : Int) (l : List Int) (L : Nat) (hL : L ≤ 5) (pv : Nat → Int) (hp : ∀ n, n < L → ∀ k, 12 ≤ k → impl_raised.f k s (n : Int) = some (pv n)) (h0 : ∀ n, n < L → 0 ≤ pv n ∧ pv n < (l.length : Int)) : ∀ (d x : Nat) (acc : List Int) (k : Nat), x + d = L → acc.length = x → d + 13 ≤ k →
    impl_Rule_terms.l0 k acc ((L : Int) - 1 - (x : Int)) s c l = some (acc ++ (List.range' x d).map (fun x => rd l (pv (L - 1 - x)))) := by
  intro d
  induction d with
  | zero =>
    intro x acc k hx ha hk
    obtain ⟨k, rfl⟩ : ∃ m, k = m + 1 := ⟨k - 1, by omega⟩
    have q1 : ¬ (L : Int) - 1 - (x : Int) ≥ 0 := by omega
    simp only [impl_Rule_terms.l0]
    rw [if_neg q1]
    simp
  | succ d ih =>
    intro x acc k hx ha hk
    obtain ⟨k, rfl⟩ : ∃ m, k = m + 1 := ⟨k - 1, by omega⟩
    have q1 : (L : Int) - 1 - (x : Int) ≥ 0 := by omega
    have e1 : (L : Int) - 1 - (x : Int) = ((L - 1 - x : Nat) : Int) := by omega
    have e2 : wrap64 ((L : Int) - 1 - (x : Int) - 1) = (L : Int) - 1 - ((x + 1 : Nat) : Int) := by unfold wrap64; omega
    have hb := h0 (L - 1 - x) (by omega)
    have g := hp (L - 1 - x) (by omega) k (by omega)
    rw [← e1] at g
    have q3 : acc.length < 17592186044416 := by omega
    have gi := ih (x + 1) (acc ++ [rd l (pv (L - 1 - x))]) k (by omega) (by simp; omega) (by omega)
    simp only [impl_Rule_terms.l0]
    rw [if_pos q1, g]
    simp only [Option.bind_some]
    rw [if_pos hb.1, if_pos hb.2, if_pos q3, e2, gi, List.range'_succ, List.map_cons, List.append_assoc]
    rfl

open Go.Proofs.Ytcigmgocllnhfaa.Va in
theorem issum_same (s c : Int) (l : List Int) (hs : I64 s) (hc : I64 c) (hn : l.length ≤ 140737488351232) (k : Nat) (hk : l.length + 2100 < k) :
    ∃ v b, spec_IsSumRule.f k s c l = some (v, b) ∧ impl_IsSumRule.f k s c l = some (v, b) := by
  unfold spec_IsSumRule.f impl_IsSumRule.f
  rw [is_f s c l hs hc hn, valid_f s c l hn _ (by omega)]
  simp only [Option.bind_some]
  cases hv : validB s c l with
  | false => exact ⟨_, _, rfl, rfl⟩
  | true =>
    have hv2 := hv
    unfold validB at hv2
    simp only [Bool.and_eq_true, decide_eq_true_eq] at hv2
    obtain ⟨hs2, hc2, hl, -⟩ := hv2
    obtain ⟨S, rfl⟩ : ∃ S : Nat, s = S := ⟨s.toNat, by omega⟩
    obtain ⟨C, rfl⟩ : ∃ C : Nat, c = C := ⟨c.toNat, by omega⟩
    have hS : S = 2 ∨ S = 3 := by omega
    have hC : C = 0 ∨ C = 1 ∨ C = 2 := by omega
    have hlN : l.length = S ^ (2 * C + 1) := by
      rw [show (2 * (C : Int) + 1).toNat = 2 * C + 1 by omega] at hl
      exact Int.ofNat.inj (hl.trans (Int.natCast_pow _ _).symm)
    obtain ⟨L, hL⟩ : ∃ L, L = 2 * C + 1 := ⟨_, rfl⟩
    have hL5 : L ≤ 5 := by omega
    have e4 : wrap64 (wrap64 (2 * (C : Int)) + 1) = (L : Int) := by unfold wrap64; omega
    have e5 : wrap64 ((L : Int) - 1) = (L : Int) - 1 - ((0 : Nat) : Int) := by unfold wrap64; omega
    have hpf : ∀ n, n < L → spec_l02Powers.f 12 (S : Int) (n : Int) = some ((S ^ n : Nat) : Int) ∧ impl_raised.f 12 (S : Int) (n : Int) = some ((S ^ n : Nat) : Int) := fun n hn => pow_facts S n hS (by omega)
    have hb : ∀ n, n < L → 0 ≤ ((S ^ n : Nat) : Int) ∧ ((S ^ n : Nat) : Int) < (l.length : Int) := fun n hn => ⟨Int.natCast_nonneg _, by
      rw [hlN]; exact Int.ofNat_lt.mpr (Nat.pow_lt_pow_right (by omega) (by omega))⟩
    obtain ⟨wf, hwf⟩ : ∃ wf, wf = ([] : List Int) ++ (List.range' 0 L).map (fun x => rd l ((fun n => ((S ^ n : Nat) : Int)) (L - 1 - x))) := ⟨_, rfl⟩
    obtain ⟨y, hy, hy2, w1, w2⟩ := weighed_same S C hS hC wf (by rw [hwf]; simp [hL])
    obtain ⟨v, hvv⟩ := swap_rules (S : Int) (C : Int) y l (by rw [hy2, hlN]) (by omega)
    have t1 := spec_terms (S : Int) (C : Int) l L hL5 (fun n => ((S ^ n : Nat) : Int)) (fun n hn k hk => at_rounds (fun k => spec_l02Powers.mono _ _ k) hk (hpf n hn).1) hb wf y v w1 (fun k hk => (hvv k (by omega)).1) L 0 [] k (Nat.zero_add _) rfl hwf.symm (by omega)
    have t2 := impl_terms (S : Int) (C : Int) l L hL5 (fun n => ((S ^ n : Nat) : Int)) (fun n hn k hk => at_rounds (fun k => impl_raised.mono _ _ k) hk (hpf n hn).2) hb L 0 [] k (Nat.zero_add _) rfl (by omega)
    rw [← hwf] at t2
    refine ⟨v, true, ?_, ?_⟩
    · simp only [if_true]
      rw [e4]
      exact t1
    · simp only [if_true, impl_Rule_terms.f, impl_Rule_cells.f, Option.bind_some]
      rw [e4, e5, t2]
      simp only [Option.bind_some]
      rw [w2 k (by omega)]
      simp only [Option.bind_some]
      rw [(hvv k (by omega)).2]
      rfl

theorem FnExactIsSumRule (s c : Int) (l : List Int) (hs : I64 s) (hc : I64 c) (hn : l.length ≤ 9223372036854775807) : ∃ k, laws_FnExactIsSumRule.f k s c l = some true := by
  refine ⟨l.length + 2200, ?_⟩
  unfold laws_FnExactIsSumRule.f
  rw [sz_f s c l hn 1048576 (by omega)]
  simp only [Option.bind_some]
  by_cases h : (l.length : Int) ≤ 1048576
  · obtain ⟨v, b, h1, h2⟩ := issum_same s c l hs hc (by omega) (l.length + 2200) (by omega)
    obtain ⟨k, hk⟩ : ∃ k, k = l.length + 2199 := ⟨_, rfl⟩
    rw [if_pos h, if_neg (by omega), toRule_f s c l (by omega) _ (by omega)]
    simp only [Option.bind_some, h1, h2, if_true, bne_self_eq_false]
    rw [show l.length + 2200 = (l.length + 2199) + 1 from rfl]
    simp only [laws_FnExactIsSumRule.j0, Bool.false_eq_true, if_false]
    rw [toRule_f s c l (by omega) _ (by omega)]
    simp only [Option.bind_some]
    rw [eqRule_f s c l (by omega) _ (by omega)]
    rfl
  · rw [if_neg h, if_pos (by omega)]

end Go.Proofs.Ytcigmgocllnhfaa.Pure
