/- The plain law of FnExactSumRule, over the functions beside: program and reference answer alike. No condition beyond the stated bounds. -/
import Derived.Test.YtcigmgocllnhfaaQFnExactSumRulex5
namespace Go.Proofs.Ytcigmgocllnhfaa.Pure
open Go.RowKit Go.Proofs.Ytcigmgocllnhfaa.QFnExactSumRule Go.Proofs.YtcigmgocllnhfaaW.PrintWords Go.Proofs.YtcigmgocllnhfaaW.PrintLast
set_option linter.unusedSimpArgs false
set_option linter.unusedVariables false

namespace FnExactSumRuleParts
theorem eq_loop (x0 : List Int) (hn : x0.length ≤ 140737488351232) (d : Nat) : ∀ (k : Nat) (i : Int), 0 ≤ i → (x0.length : Int) - i = d → d < k → laws_eqInt64S.l0 k x0 x0 i = some true := by
  induction d with
  | zero =>
    intro k i h0 hd hk
    obtain ⟨k, rfl⟩ : ∃ m, k = m + 1 := ⟨k - 1, by omega⟩
    simp only [laws_eqInt64S.l0]
    rw [if_neg (by omega)]
  | succ d ih =>
    intro k i h0 hd hk
    obtain ⟨k, rfl⟩ : ∃ m, k = m + 1 := ⟨k - 1, by omega⟩
    simp only [laws_eqInt64S.l0]
    rw [if_pos (by omega), if_pos h0, if_pos (by omega), if_pos trivial, show wrap64 (i + 1) = i + 1 by unfold wrap64; omega]
    exact ih k (i + 1) (by omega) (by omega) (by omega)

theorem eq_f (x0 : List Int) (hn : x0.length ≤ 140737488351232) (k : Nat) (hk : x0.length < k) : laws_eqInt64S.f k x0 x0 = some true := by
  unfold laws_eqInt64S.f
  rw [if_pos rfl]
  exact eq_loop x0 hn x0.length k 0 (by omega) (by omega) hk

theorem rd_get (x : List Int) (i : Int) (h0 : 0 ≤ i) (h : i < (x.length : Int)) : x[i.toNat]? = some (rd x i) := by
  unfold rd
  rw [List.getD_eq_getElem?_getD, List.getElem?_eq_getElem (by omega)]
  rfl

theorem wrap_up {i : Int} {n : Nat} (h0 : 0 ≤ i) (h : i < (n : Int)) (hn : n ≤ 140737488351232) : wrap64 (i + 1) = i + 1 := by
  unfold wrap64; omega

theorem copy_loop (x0 : List Int) (hn : x0.length ≤ 140737488351232) (d : Nat) : ∀ (k : Nat) (x3 : List Int) (i : Int), 0 ≤ i → (x0.length : Int) - i = d → x3.length = x0.length →
    (∀ j : Nat, (j : Int) < i → x3[j]? = x0[j]?) → d < k → laws_toInt64S.l0 k x0 x3 i = some x0 := by
  induction d with
  | zero =>
    intro k x3 i h0 hd hl hj hk
    obtain ⟨k, rfl⟩ : ∃ m, k = m + 1 := ⟨k - 1, by omega⟩
    simp only [laws_toInt64S.l0]
    rw [if_neg (by omega)]
    congr 1
    apply List.ext_getElem?
    intro j
    by_cases h : (j : Int) < i
    · exact hj j h
    · rw [List.getElem?_eq_none (by omega), List.getElem?_eq_none (by omega)]
  | succ d ih =>
    intro k x3 i h0 hd hl hj hk
    obtain ⟨k, rfl⟩ : ∃ m, k = m + 1 := ⟨k - 1, by omega⟩
    simp only [laws_toInt64S.l0]
    rw [if_pos (by omega), if_pos h0, if_pos (by omega), wrap_up (n := x0.length) h0 (by omega) hn]
    refine ih k _ (i + 1) (by omega) (by omega) (by simpa using hl) ?_ (by omega)
    intro j hlt
    rw [List.getElem?_set]
    by_cases h : i.toNat = j
    · subst h
      rw [if_pos rfl, if_pos (by omega), rd_get x0 i h0 (by omega)]
    · rw [if_neg h]
      exact hj j (by omega)

theorem copy_f (x0 : List Int) (hn : x0.length * 8 ≤ 140737488351232) (k : Nat) (hk : x0.length < k) : laws_toInt64S.f k x0 = some x0 := by
  unfold laws_toInt64S.f
  rw [if_pos (by omega), if_pos (by omega)]
  exact copy_loop x0 (by omega) x0.length k _ 0 (by omega) (by omega) (by simp) (by intro j h; omega) hk

theorem in_f (a b c : Int) : spec_l00In.f a b c = some (decide (b ≤ a ∧ a ≤ c)) := by
  unfold spec_l00In.f
  by_cases h : a ≥ b
  · rw [if_pos h]; simp; omega
  · rw [if_neg h]; simp; omega

theorem within_f (a b c : Int) : impl_within.f a b c = some (decide (b ≤ a ∧ a ≤ c)) := by
  unfold impl_within.f
  by_cases h : a ≥ b
  · rw [if_pos h]; simp; omega
  · rw [if_neg h]; simp; omega


/-- What marking leaves: a, a + 1, .. -/
def Marked (a : Int) (x : List Int) : Prop := ∀ j : Nat, j < x.length → x[j]? = some (a + j)

theorem mark_loop (n : Nat) (hn : n ≤ 140737488351232) (d : Nat) : ∀ (k : Nat) (x : List Int) (i a : Int), 0 ≤ i → x.length = n → (n : Int) - i = d → a = 1 + i →
    (∀ j : Nat, (j : Int) < i → x[j]? = some (1 + (j : Int))) → d < k → ∃ y, laws_markInt64S.l0 k x a i = some (1 + (n : Int), y) ∧ y.length = n ∧ Marked 1 y := by
  induction d with
  | zero =>
    intro k x i a h0 hl hd ha hj hk
    obtain ⟨k, rfl⟩ : ∃ m, k = m + 1 := ⟨k - 1, by omega⟩
    simp only [laws_markInt64S.l0]
    rw [if_neg (by omega)]
    exact ⟨x, by rw [show a = 1 + (n : Int) by omega], hl, fun j h => hj j (by omega)⟩
  | succ d ih =>
    intro k x i a h0 hl hd ha hj hk
    obtain ⟨k, rfl⟩ : ∃ m, k = m + 1 := ⟨k - 1, by omega⟩
    simp only [laws_markInt64S.l0]
    rw [if_pos (by omega), if_pos h0, show wrap64 (i + 1) = i + 1 by unfold wrap64; omega, show wrap64 (a + 1) = a + 1 by unfold wrap64; omega]
    refine ih k _ (i + 1) (a + 1) (by omega) (by simpa using hl) (by omega) (by omega) ?_ (by omega)
    intro j hlt
    rw [List.getElem?_set]
    by_cases h : i.toNat = j
    · subst h
      rw [if_pos rfl, if_pos (by omega)]
      congr 1; omega
    · rw [if_neg h]
      exact hj j (by omega)

theorem mark_f (x : List Int) (hn : x.length ≤ 140737488351232) (k : Nat) (hk : x.length < k) : ∃ y, laws_markInt64S.f k x 1 = some (1 + (x.length : Int), y) ∧ y.length = x.length ∧ Marked 1 y := by
  unfold laws_markInt64S.f
  exact mark_loop x.length hn x.length k x 0 1 (by omega) rfl (by omega) (by omega) (by intro j h; omega) hk

theorem held_loop (x : List Int) (hn : x.length ≤ 140737488351232) (hm : Marked 1 x) (d : Nat) : ∀ (k : Nat) (i a : Int), 0 ≤ i → (x.length : Int) - i = d → a = 1 + i → d < k →
    laws_heldInt64S.l0 k x a i = some (1 + (x.length : Int)) := by
  induction d with
  | zero =>
    intro k i a h0 hd ha hk
    obtain ⟨k, rfl⟩ : ∃ m, k = m + 1 := ⟨k - 1, by omega⟩
    simp only [laws_heldInt64S.l0]
    rw [if_neg (by omega)]
    congr 1; omega
  | succ d ih =>
    intro k i a h0 hd ha hk
    obtain ⟨k, rfl⟩ : ∃ m, k = m + 1 := ⟨k - 1, by omega⟩
    simp only [laws_heldInt64S.l0]
    have hr : rd x i = a := by
      have h1 := hm i.toNat (by omega)
      unfold rd
      rw [List.getD_eq_getElem?_getD, h1]
      simp; omega
    rw [if_pos (by omega), if_pos h0, if_pos hr, show wrap64 (i + 1) = i + 1 by unfold wrap64; omega, show wrap64 (a + 1) = a + 1 by unfold wrap64; omega]
    exact ih k (i + 1) (a + 1) (by omega) (by omega) (by omega) (by omega)

theorem held_f (x : List Int) (hn : x.length ≤ 140737488351232) (hm : Marked 1 x) (k : Nat) (hk : x.length < k) : laws_heldInt64S.f k x 1 = some (1 + (x.length : Int)) := by
  unfold laws_heldInt64S.f
  exact held_loop x hn hm x.length k 0 1 (by omega) (by omega) (by omega) hk

theorem eqRule_f (s r : Int) (x : List Int) (hn : x.length ≤ 140737488351232) (k : Nat) (hk : x.length < k) : laws_eqRule.f k s r x s r x = some true := by
  unfold laws_eqRule.f
  rw [if_pos rfl, if_pos rfl, eq_f x hn k hk]
  rfl

theorem markRule_f (s r : Int) (x : List Int) (hn : x.length ≤ 140737488351232) (k : Nat) (hk : x.length < k) : ∃ y, laws_markRule.f k s r x 1 = some (1 + (x.length : Int), y) ∧ y.length = x.length ∧ Marked 1 y := by
  obtain ⟨y, h1, h2, h3⟩ := mark_f x hn k hk
  refine ⟨y, ?_, h2, h3⟩
  unfold laws_markRule.f
  rw [h1]
  rfl

theorem heldRule_f (s r : Int) (x : List Int) (hn : x.length ≤ 140737488351232) (hm : Marked 1 x) (k : Nat) (hk : x.length < k) : laws_heldRule.f k s r x 1 = some (1 + (x.length : Int)) := by
  unfold laws_heldRule.f
  rw [held_f x hn hm k hk]
  simp only [Option.bind_some]
  rw [if_neg (by omega)]

open Go.Proofs.Ytcigmgocllnhfaa.Va in
theorem areWithin_f (x : List Int) (hn : x.length ≤ 140737488351232) (t : Int) (d : Nat) : ∀ (k : Nat) (i : Nat), x.length - i = d → i ≤ x.length → d < k →
    impl_areWithin.l0 k 0 (t - 1) x x.length (i : Int) = some (rowB t (x.drop i)) := by
  induction d with
  | zero =>
    intro k i hd hi hk
    obtain ⟨k, rfl⟩ : ∃ m, k = m + 1 := ⟨k - 1, by omega⟩
    simp only [impl_areWithin.l0]
    rw [if_neg (by omega), show i = x.length by omega, List.drop_length]
    rfl
  | succ d ih =>
    intro k i hd hi hk
    obtain ⟨k, rfl⟩ : ∃ m, k = m + 1 := ⟨k - 1, by omega⟩
    simp only [impl_areWithin.l0, if_pos (show (i : Int) < (x.length : Int) by omega), if_pos (show 0 ≤ (i : Int) by omega), within_f, Option.bind_some, show wrap64 ((i : Int) + 1) = ((i + 1 : Nat) : Int) by unfold wrap64; omega]
    rw [rowB_drop t x i (by omega)]
    cases hb : decide (0 ≤ rd x (i : Int) ∧ rd x (i : Int) ≤ t - 1) with
    | true => simp only [if_true, Bool.true_and]; exact ih k (i + 1) (by omega) (by omega) (by omega)
    | false => simp only [Bool.false_eq_true, if_false, Bool.false_and]

open Go.Proofs.Ytcigmgocllnhfaa.Va in
theorem many_g (s a b : Int) (l : List Int) (hs : s = 2 ∨ s = 3) (hn : l.length ≤ 140737488351232) (k : Nat) (hk : l.length < k) : impl_areMany.f k l a b 0 (wrap64 (s - 1)) = some (decide (a ≤ (l.length : Int) ∧ (l.length : Int) ≤ b) && rowB s l) := by
  have e : wrap64 (s - 1) = s - 1 := by unfold wrap64; omega
  unfold impl_areMany.f impl_areWithin.f
  rw [within_f, e]
  simp only [Option.bind_some]
  have h := areWithin_f l hn s l.length k 0 (by omega) (by omega) hk
  rw [List.drop_zero] at h
  cases hd : decide (a ≤ (l.length : Int) ∧ (l.length : Int) ≤ b) with
  | true =>
    simp only [if_true, Bool.true_and]
    rw [show ((0 : Nat) : Int) = 0 from rfl] at h
    rw [h]; rfl
  | false => simp only [Bool.false_eq_true, if_false, Bool.false_and]

/-- The digits of a number, the greatest one first. -/
def digs (s : Nat) : Nat → Nat → List Int
  | 0, _ => []
  | n + 1, x => digs s n (x / s) ++ [((x % s : Nat) : Int)]
theorem digs_len (s : Nat) : ∀ n x, (digs s n x).length = n
  | 0, _ => rfl
  | n + 1, x => by simp [digs, digs_len s n]
theorem digs_lt (s : Nat) (hs : 0 < s) : ∀ n x, ∀ y ∈ digs s n x, 0 ≤ y ∧ y ≤ (s : Int) - 1
  | 0, _ => by simp [digs]
  | n + 1, x => by
    intro y hy
    rcases List.mem_append.mp hy with h | h
    · exact digs_lt s hs n _ y h
    · have h' : y = ((x % s : Nat) : Int) := by simpa using h
      subst h'
      have := Nat.mod_lt x hs
      omega
theorem spec_digits_loop (s : Nat) (hs : s = 2 ∨ s = 3) : ∀ (n k x : Nat) (l : List Int), x ≤ 1000000 → n ≤ l.length → n ≤ 1000 → n < k → spec_l02Digits.l0 k (x : Int) (s : Int) l ((n : Int) - 1) = some (digs s n x ++ l.drop n) := by
  intro n
  induction n with
  | zero =>
    intro k x l hx hl hn hk
    obtain ⟨k, rfl⟩ : ∃ m, k = m + 1 := ⟨k - 1, by omega⟩
    simp only [spec_l02Digits.l0]
    rw [if_neg (by omega)]
    rfl
  | succ n ih =>
    intro k x l hx hl hn hk
    obtain ⟨k, rfl⟩ : ∃ m, k = m + 1 := ⟨k - 1, by omega⟩
    have ed : Int.tdiv (x : Int) (s : Int) = ((x / s : Nat) : Int) := rfl
    have em : Int.tmod (x : Int) (s : Int) = ((x % s : Nat) : Int) := rfl
    have hd : x / s ≤ x := Nat.div_le_self _ _
    have he : digs s (n + 1) x = digs s n (x / s) ++ [((x % s : Nat) : Int)] := rfl
    rw [he]
    clear he
    revert ed em hd
    generalize x / s = q
    generalize x % s = z
    intro ed em hd
    simp only [spec_l02Digits.l0]
    rw [if_pos (by omega), if_neg (by omega), if_pos (by omega), if_pos (by omega), ed, em, show wrap64 (q : Int) = (q : Int) by unfold wrap64; omega, show wrap64 (((n + 1 : Nat) : Int) - 1 - 1) = ((n : Nat) : Int) - 1 by unfold wrap64; omega, show (((n + 1 : Nat) : Int) - 1).toNat = n by omega]
    rw [ih k q (l.set n (z : Int)) (by omega) (by simp; omega) (by omega) (by omega)]
    congr 1
    rw [List.append_assoc]
    congr 1
    rw [List.drop_eq_getElem_cons (by simp; omega), List.drop_set_of_lt (by omega)]
    simp
theorem spec_digits_f (s : Nat) (hs : s = 2 ∨ s = 3) (n x k : Nat) (hx : x ≤ 1000000) (hn : n ≤ 1000) (hk : n < k) : spec_l02Digits.f k (x : Int) (s : Int) (n : Int) = some (digs s n x) := by
  unfold spec_l02Digits.f
  rw [if_pos (by omega), show ((n : Nat) : Int).toNat = n by omega, if_pos (by omega), show wrap64 ((n : Int) - 1) = (n : Int) - 1 by unfold wrap64; omega]
  rw [spec_digits_loop s hs n k x (List.replicate n 0) hx (by simp) hn hk]
  simp
theorem impl_digits_loop (s : Nat) (hs : s = 2 ∨ s = 3) : ∀ (n k x : Nat) (l : List Int), x ≤ 1000000 → n ≤ l.length → n ≤ 1000 → n < k → impl_digitsOf.l0 k (x : Int) (s : Int) l ((n : Int) - 1) = some (digs s n x ++ l.drop n) := by
  intro n
  induction n with
  | zero =>
    intro k x l hx hl hn hk
    obtain ⟨k, rfl⟩ : ∃ m, k = m + 1 := ⟨k - 1, by omega⟩
    simp only [impl_digitsOf.l0]
    rw [if_neg (by omega)]
    rfl
  | succ n ih =>
    intro k x l hx hl hn hk
    obtain ⟨k, rfl⟩ : ∃ m, k = m + 1 := ⟨k - 1, by omega⟩
    have ed : Int.tdiv (x : Int) (s : Int) = ((x / s : Nat) : Int) := rfl
    have em : Int.tmod (x : Int) (s : Int) = ((x % s : Nat) : Int) := rfl
    have hd : x / s ≤ x := Nat.div_le_self _ _
    have he : digs s (n + 1) x = digs s n (x / s) ++ [((x % s : Nat) : Int)] := rfl
    rw [he]
    clear he
    revert ed em hd
    generalize x / s = q
    generalize x % s = z
    intro ed em hd
    simp only [impl_digitsOf.l0]
    rw [if_pos (by omega), if_neg (by omega), if_pos (by omega), if_pos (by omega), ed, em, show wrap64 (q : Int) = (q : Int) by unfold wrap64; omega, show wrap64 (((n + 1 : Nat) : Int) - 1 - 1) = ((n : Nat) : Int) - 1 by unfold wrap64; omega, show (((n + 1 : Nat) : Int) - 1).toNat = n by omega]
    rw [ih k q (l.set n (z : Int)) (by omega) (by simp; omega) (by omega) (by omega)]
    congr 1
    rw [List.append_assoc]
    congr 1
    rw [List.drop_eq_getElem_cons (by simp; omega), List.drop_set_of_lt (by omega)]
    simp
theorem impl_digits_f (s : Nat) (hs : s = 2 ∨ s = 3) (n x k : Nat) (hx : x ≤ 1000000) (hn : n ≤ 1000) (hk : n < k) : impl_digitsOf.f k (x : Int) (s : Int) (n : Int) = some (digs s n x) := by
  unfold impl_digitsOf.f
  rw [if_pos (by omega), show ((n : Nat) : Int).toNat = n by omega, if_pos (by omega), show wrap64 ((n : Int) - 1) = (n : Int) - 1 by unfold wrap64; omega]
  rw [impl_digits_loop s hs n k x (List.replicate n 0) hx (by simp) hn hk]
  simp

structure PowFacts (s long : Nat) : Prop where
  hs : s = 2 ∨ s = 3
  hl : long ≤ 5
  hp : s ^ long ≤ 243
  pw : spec_l02Powers.f 12 (s : Int) (long : Int) = some ((s ^ long : Nat) : Int)
  ra : impl_raised.f 12 (s : Int) (long : Int) = some ((s ^ long : Nat) : Int)
theorem powFacts21 : PowFacts 2 1 := ⟨by decide, by decide, by decide, by decide +kernel, by decide +kernel⟩
theorem powFacts23 : PowFacts 2 3 := ⟨by decide, by decide, by decide, by decide +kernel, by decide +kernel⟩
theorem powFacts25 : PowFacts 2 5 := ⟨by decide, by decide, by decide, by decide +kernel, by decide +kernel⟩
theorem powFacts31 : PowFacts 3 1 := ⟨by decide, by decide, by decide, by decide +kernel, by decide +kernel⟩
theorem powFacts33 : PowFacts 3 3 := ⟨by decide, by decide, by decide, by decide +kernel, by decide +kernel⟩
theorem powFacts35 : PowFacts 3 5 := ⟨by decide, by decide, by decide, by decide +kernel, by decide +kernel⟩
theorem powFacts (s r : Nat) (hs : s = 2 ∨ s = 3) (hr : r = 0 ∨ r = 1 ∨ r = 2) : PowFacts s (2 * r + 1) := by
  rcases hs with rfl | rfl <;> rcases hr with rfl | rfl | rfl
  · exact powFacts21
  · exact powFacts23
  · exact powFacts25
  · exact powFacts31
  · exact powFacts33
  · exact powFacts35

/-- impl.made's loop, over variables alone. -/
theorem made_gen (tell : Nat → List Int → Option Int) (s r long : Int) (N : Nat) (hN : N ≤ 243) (h4 : wrap64 (wrap64 (2 * r) + 1) = long) (val : Nat → Int)
    (hst : ∀ x, x < N → ∃ t, (∀ k, 12 ≤ k → impl_digitsOf.f k (x : Int) s long = some t) ∧ ∀ k, 12 ≤ k → tell k t = some (val x)) (d : Nat) : ∀ (k x : Nat) (acc : List Int), x + d = N → acc.length = x → d + 14 < k →
    impl_made.l0 tell k s (N : Int) (x : Int) s r acc = some (s, r, acc ++ (List.range' x d).map val) := by
  induction d with
  | zero =>
    intro k x acc hx ha hk
    obtain ⟨k, rfl⟩ : ∃ m, k = m + 1 := ⟨k - 1, by omega⟩
    have q1 : ¬ (x : Int) < (N : Int) := by omega
    simp only [impl_made.l0]
    rw [if_neg q1]
    simp
  | succ d ih =>
    intro k x acc hx ha hk
    obtain ⟨k, rfl⟩ : ∃ m, k = m + 1 := ⟨k - 1, by omega⟩
    have hxN : x < N := by omega
    have q1 : (x : Int) < (N : Int) := by omega
    have q2 : acc.length < 17592186044416 := by omega
    have q3 : wrap64 ((x : Int) + 1) = ((x + 1 : Nat) : Int) := by unfold wrap64; omega
    obtain ⟨t, h1, h2⟩ := hst x hxN
    have g1 := h1 k (by omega)
    have g2 := h2 k (by omega)
    have g3 := ih k (x + 1) (acc ++ [val x]) (by omega) (by simp; omega) (by omega)
    simp only [impl_made.l0, impl_Rule_cells.f]
    rw [if_pos q1]
    simp only [Option.bind_some]
    rw [h4, g1]
    simp only [Option.bind_some]
    rw [g2]
    simp only [Option.bind_some]
    rw [if_pos q2, q3, g3, List.range'_succ, List.map_cons, List.append_assoc]
    rfl

/-- The sum of products, as it is built. -/
def dotL (w t : List Int) : Nat → Int → Nat → Int
  | _, a, 0 => a
  | i, a, d + 1 => dotL w t (i + 1) (wrap64 (a + wrap64 (rd w (i : Int) * rd t (i : Int)))) d
theorem spec_w_inner (s x5 x7 : Int) (w t : List Int) (hs : s ≠ 0) (hw : w.length = t.length) (hl : t.length ≤ 1000) (b0 b1 : Int) (b2 : List Int) (hb : b2.length < 17592186044416) (m : Nat) : ∀ (d i : Nat) (a : Int), i + d = t.length →
    spec_l02Weighed.l1 (m + d + 1) s w x5 x7 t a (i : Int) b0 b1 b2 = spec_l02Weighed.l0 m s w x5 (wrap64 (x7 + 1)) b0 b1 (b2 ++ [Int.tmod (dotL w t i a d) s]) := by
  intro d
  induction d with
  | zero =>
    intro i a hi
    have q1 : ¬ (i : Int) < (t.length : Int) := by omega
    show spec_l02Weighed.l1 (m + 1) s w x5 x7 t a (i : Int) b0 b1 b2 = _
    simp only [spec_l02Weighed.l1]
    rw [if_neg q1, if_neg hs, if_pos hb]
    rfl
  | succ d ih =>
    intro i a hi
    have q1 : (i : Int) < (t.length : Int) := by omega
    have q2 : 0 ≤ (i : Int) := Int.natCast_nonneg i
    have q3 : (i : Int) < (w.length : Int) := by omega
    have q4 : wrap64 ((i : Int) + 1) = ((i + 1 : Nat) : Int) := by unfold wrap64; omega
    show spec_l02Weighed.l1 ((m + d + 1) + 1) s w x5 x7 t a (i : Int) b0 b1 b2 = _
    simp only [spec_l02Weighed.l1]
    rw [if_pos q1, if_pos q2, if_pos q3, q4]
    exact ih (i + 1) _ (by omega)
theorem impl_w_inner (s : Int) (w t : List Int) (hs : s ≠ 0) (hw : w.length = t.length) (hl : t.length ≤ 1000) : ∀ (d k i : Nat) (a : Int), i + d = t.length → d < k →
    impl_weighed_1.l0 k t s a w (w.length : Int) (i : Int) = some (Int.tmod (dotL w t i a d) s) := by
  intro d
  induction d with
  | zero =>
    intro k i a hi hk
    obtain ⟨k, rfl⟩ : ∃ m, k = m + 1 := ⟨k - 1, by omega⟩
    have q1 : ¬ (i : Int) < (w.length : Int) := by omega
    simp only [impl_weighed_1.l0]
    rw [if_neg q1, if_neg hs]
    rfl
  | succ d ih =>
    intro k i a hi hk
    obtain ⟨k, rfl⟩ : ∃ m, k = m + 1 := ⟨k - 1, by omega⟩
    have q1 : (i : Int) < (t.length : Int) := by omega
    have q2 : 0 ≤ (i : Int) := Int.natCast_nonneg i
    have q3 : (i : Int) < (w.length : Int) := by omega
    have q4 : wrap64 ((i : Int) + 1) = ((i + 1 : Nat) : Int) := by unfold wrap64; omega
    simp only [impl_weighed_1.l0]
    rw [if_pos q3, if_pos q2, if_pos q3, if_pos q1, q4]
    exact ih k (i + 1) _ (by omega) (by omega)
theorem spec_w_loop (s : Int) (hs : s ≠ 0) (w : List Int) (L N : Nat) (hL : w.length = L) (hL5 : L ≤ 1000) (hN : N ≤ 243) (T : Nat → List Int) (hT : ∀ x, (T x).length = L)
    (pw : ∀ k, 12 ≤ k → spec_l02Powers.f k s (L : Int) = some (N : Int)) (dg : ∀ x, x < N → ∀ k, 12 ≤ k → spec_l02Digits.f k (x : Int) s (L : Int) = some (T x)) (b0 b1 : Int) (d : Nat) : ∀ (x : Nat) (acc : List Int) (k : Nat), x + d = N → acc.length = x → d * (L + 2) + 14 ≤ k →
    spec_l02Weighed.l0 k s w (L : Int) (x : Int) b0 b1 acc = some (b0, b1, acc ++ (List.range' x d).map fun x => Int.tmod (dotL w (T x) 0 0 L) s) := by
  induction d with
  | zero =>
    intro x acc k hx ha hk
    obtain ⟨k, rfl⟩ : ∃ m, k = m + 1 := ⟨k - 1, by omega⟩
    have q1 : ¬ (x : Int) < (N : Int) := by omega
    have g := pw k (by omega)
    simp only [spec_l02Weighed.l0]
    rw [g]
    simp only [Option.bind_some]
    rw [if_neg q1]
    simp
  | succ d ih =>
    intro x acc k hx ha hk
    have hk' : d * (L + 2) + (L + 2) + 14 ≤ k := by rw [Nat.succ_mul] at hk; exact hk
    obtain ⟨m, rfl⟩ : ∃ m, k = (m + L + 1) + 1 := ⟨k - (L + 2), by omega⟩
    have q0 : x < N := by omega
    have q1 : (x : Int) < (N : Int) := by omega
    have q2 : acc.length < 17592186044416 := by omega
    have q3 : wrap64 ((x : Int) + 1) = ((x + 1 : Nat) : Int) := by unfold wrap64; omega
    have g := pw (m + L + 1) (by omega)
    have g2 := dg x q0 (m + L + 1) (by omega)
    have g3 := spec_w_inner s (L : Int) (x : Int) w (T x) hs (by rw [hT, hL]) (by rw [hT]; exact hL5) b0 b1 acc q2 m L 0 0 (by rw [hT, Nat.zero_add])
    have g4 := ih (x + 1) (acc ++ [Int.tmod (dotL w (T x) 0 0 L) s]) m (by omega) (by simp; omega) (by omega)
    rw [show ((0 : Nat) : Int) = 0 from rfl] at g3
    simp only [spec_l02Weighed.l0]
    rw [g]
    simp only [Option.bind_some]
    rw [if_pos q1, g2]
    simp only [Option.bind_some]
    rw [g3, q3, g4, List.range'_succ, List.map_cons, List.append_assoc]
    rfl
theorem weighed_same (s R : Nat) (hs : s = 2 ∨ s = 3) (hR : R = 0 ∨ R = 1 ∨ R = 2) (w : List Int) (hw : w.length = 2 * R + 1) : ∃ y : List Int, y.length ≤ 243 ∧ y.length = s ^ (2 * R + 1) ∧
    (∀ k, 1800 ≤ k → spec_l02Weighed.f k (s : Int) w = some ((s : Int), (R : Int), y)) ∧ ∀ k, 1800 ≤ k → impl_weighed.f k (s : Int) w = some ((s : Int), (R : Int), y) := by
  have F := powFacts s R hs hR
  obtain ⟨L, hL⟩ : ∃ L, L = 2 * R + 1 := ⟨_, rfl⟩
  rw [← hL] at F hw
  obtain ⟨N, hN⟩ : ∃ N, N = s ^ L := ⟨_, rfl⟩
  have hp := F.hp
  have fpw := F.pw
  have fra := F.ra
  rw [← hN] at hp fpw fra
  have hl5 := F.hl
  have hs0 : (s : Int) ≠ 0 := by omega
  have hdig : ∀ x, x < N → ∀ k, 12 ≤ k → spec_l02Digits.f k (x : Int) (s : Int) (L : Int) = some (digs s L x) := fun x hx k hk => spec_digits_f s hs L x k (by omega) (by omega) (by omega)
  have hdig2 : ∀ x, x < N → ∀ k, 12 ≤ k → impl_digitsOf.f k (x : Int) (s : Int) (L : Int) = some (digs s L x) := fun x hx k hk => impl_digits_f s hs L x k (by omega) (by omega) (by omega)
  have e1 : wrap64 (Int.tdiv (wrap64 ((L : Int) - 1)) 2) = (R : Int) := by subst hL; rcases hR with rfl | rfl | rfl <;> decide +kernel
  have e2 : wrap64 ((L : Int) / 2) = (R : Int) := by subst hL; rcases hR with rfl | rfl | rfl <;> decide +kernel
  have e3 : wrap64 (wrap64 (2 * (R : Int)) + 1) = (L : Int) := by subst hL; rcases hR with rfl | rfl | rfl <;> decide +kernel
  have hLN : 243 * (L + 2) ≤ 1701 := by omega
  have hNL : N * (L + 2) ≤ 243 * (L + 2) := Nat.mul_le_mul_right _ hp
  refine ⟨(List.range' 0 N).map fun x => Int.tmod (dotL w (digs s L x) 0 0 L) s, by simpa using hp, by rw [← hL, ← hN]; simp, fun k hk => ?_, fun k hk => ?_⟩
  · have g := spec_w_loop (s : Int) hs0 w L N hw (by omega) hp (digs s L) (digs_len s L) (fun k hk => at_rounds (fun k => spec_l02Powers.mono _ _ k) hk fpw) hdig (s : Int) (R : Int) N 0 [] k (Nat.zero_add _) rfl (by omega)
    unfold spec_l02Weighed.f
    rw [hw, e1]
    rw [show ((0 : Nat) : Int) = 0 from rfl] at g
    rw [g, List.nil_append]
  · have g := made_gen (fun k_ l_ => impl_weighed_1.f k_ l_ w (s : Int)) (s : Int) (R : Int) (L : Int) N hp e3 (fun x => Int.tmod (dotL w (digs s L x) 0 0 L) s)
      (fun x hx => ⟨digs s L x, hdig2 x hx, fun k hk => by
        have h := impl_w_inner (s : Int) w (digs s L x) hs0 (by rw [digs_len, hw]) (by rw [digs_len]; omega) L k 0 0 (by rw [digs_len, Nat.zero_add]) (by omega)
        exact h⟩) N k 0 [] (Nat.zero_add _) rfl (by omega)
    rw [show ((0 : Nat) : Int) = 0 from rfl, List.nil_append] at g
    have gra := at_rounds (fun k => impl_raised.mono _ _ k) (show 12 ≤ k by omega) fra
    unfold impl_weighed.f impl_made.f impl_Rule_cells.f
    simp only [Option.bind_some]
    rw [hw, e2, e3, gra]
    simp only [Option.bind_some]
    rw [g]
    rfl

end FnExactSumRuleParts
open FnExactSumRuleParts

open Go.Proofs.Ytcigmgocllnhfaa.Va in
theorem spec_loop (s : Int) (hs : s = 2 ∨ s = 3) (l : List Int) (hn : l.length ≤ 1000) (p q : Int) (y : List Int) (hW : ∀ k, 1800 ≤ k → spec_l02Weighed.f k s l = some (p, q, y)) : ∀ (d i k : Nat), i + d = l.length → d + 1801 ≤ k →
    spec_SumRule.l0 k s l (l.length : Int) (i : Int) = some (if rowB s (l.drop i) then (p, q, y, true) else (0, 0, [], false)) := by
  intro d
  induction d with
  | zero =>
    intro i k hi hk
    obtain ⟨k, rfl⟩ : ∃ m, k = m + 1 := ⟨k - 1, by omega⟩
    have q1 : ¬ (i : Int) < (l.length : Int) := by omega
    have g := hW k (by omega)
    simp only [spec_SumRule.l0]
    rw [if_neg q1, g, List.drop_eq_nil_of_le (by omega)]
    rfl
  | succ d ih =>
    intro i k hi hk
    obtain ⟨k, rfl⟩ : ∃ m, k = m + 1 := ⟨k - 1, by omega⟩
    have q1 : (i : Int) < (l.length : Int) := by omega
    have q2 : 0 ≤ (i : Int) := Int.natCast_nonneg i
    have q4 : wrap64 ((i : Int) + 1) = ((i + 1 : Nat) : Int) := by unfold wrap64; omega
    have q5 : wrap64 (s - 1) = s - 1 := by unfold wrap64; omega
    have g := ih (i + 1) k (by omega) (by omega)
    simp only [spec_SumRule.l0]
    rw [if_pos q1, if_pos q2, if_pos q1, q5, in_f, q4, g, rowB_drop s l i (by omega)]
    simp only [Option.bind_some]
    cases decide (0 ≤ rd l (i : Int) ∧ rd l (i : Int) ≤ s - 1) with
    | true => simp only [if_true, Bool.true_and]
    | false => simp only [Bool.false_eq_true, if_false, Bool.false_and]

open Go.Proofs.Ytcigmgocllnhfaa.Va in
theorem sum_same (s : Int) (l : List Int) (hn : l.length ≤ 140737488351232) (k : Nat) (hk : l.length + 2000 < k) :
    ∃ (s' r' : Int) (y : List Int) (b : Bool), spec_SumRule.f k s l = some (s', r', y, b) ∧ impl_SumRule.f k s l = some (s', r', y, b) ∧ y.length ≤ 243 := by
  obtain ⟨k, rfl⟩ : ∃ m, k = m + 1 := ⟨k - 1, by omega⟩
  have z : ∀ x : Int × Int × List Int × Bool, x = (0, 0, [], false) → ∃ (s' r' : Int) (y : List Int) (b : Bool), x = (s', r', y, b) ∧ y.length ≤ 243 := fun x hx => ⟨0, 0, [], false, hx, by simp⟩
  unfold spec_SumRule.f impl_SumRule.f impl_areStates.f
  simp only [in_f, Option.bind_some]
  by_cases hs : s = 2 ∨ s = 3
  · have e2 : (if s = 2 then some true else some (s == 3)) = some true := by rcases hs with rfl | rfl <;> rfl
    rw [e2, decide_eq_true (show 2 ≤ s ∧ s ≤ 3 by omega)]
    simp only [Option.bind_some, if_true]
    rw [many_g s 1 5 l hs hn (k + 1) (by omega)]
    simp only [Option.bind_some]
    by_cases hl : l.length = 1 ∨ l.length = 3 ∨ l.length = 5
    · obtain ⟨S, rfl⟩ : ∃ S : Nat, s = S := ⟨s.toNat, by omega⟩
      obtain ⟨R, hR⟩ : ∃ R : Nat, l.length = 2 * R + 1 := ⟨l.length / 2, by omega⟩
      obtain ⟨y, hy, -, h1, h2⟩ := weighed_same S R (by omega) (by omega) l hR
      have hsl := spec_loop (S : Int) hs l (by omega) _ _ y h1 l.length 0 k (by omega) (by omega)
      rw [List.drop_zero, show ((0 : Nat) : Int) = 0 from rfl] at hsl
      have hsp : (if (l.length : Int) = 1 then spec_SumRule.j0 (k + 1) (S : Int) l (l.length : Int) false else if (l.length : Int) = 3 then spec_SumRule.j0 (k + 1) (S : Int) l (l.length : Int) false else spec_SumRule.j0 (k + 1) (S : Int) l (l.length : Int) ((l.length : Int) != 5)) = spec_SumRule.l0 k (S : Int) l (l.length : Int) 0 := by
        have q : spec_SumRule.j0 (k + 1) (S : Int) l (l.length : Int) false = spec_SumRule.l0 k (S : Int) l (l.length : Int) 0 := by simp only [spec_SumRule.j0, Bool.false_eq_true, if_false]
        by_cases c1 : (l.length : Int) = 1
        · rw [if_pos c1]; exact q
        rw [if_neg c1]
        by_cases c3 : (l.length : Int) = 3
        · rw [if_pos c3]; exact q
        rw [if_neg c3, show ((l.length : Int) != 5) = false by simp; omega]
        exact q
      rw [hsp, hsl, decide_eq_true (show 1 ≤ (l.length : Int) ∧ (l.length : Int) ≤ 5 by omega), Bool.true_and]
      cases rowB (S : Int) l with
      | false => simp only [Bool.false_eq_true, if_false]; exact ⟨_, _, _, _, rfl, rfl, by simp⟩
      | true =>
        simp only [if_true]
        rw [if_neg (show ¬ (l.length : Int) % 2 = 0 by omega), h2 (k + 1) (by omega)]
        exact ⟨_, _, _, _, rfl, rfl, hy⟩
    · have hsp : (if (l.length : Int) = 1 then spec_SumRule.j0 (k + 1) s l (l.length : Int) false else if (l.length : Int) = 3 then spec_SumRule.j0 (k + 1) s l (l.length : Int) false else spec_SumRule.j0 (k + 1) s l (l.length : Int) ((l.length : Int) != 5)) = some (0, 0, [], false) := by
        rw [if_neg (by omega), if_neg (by omega), show ((l.length : Int) != 5) = true by simp; omega]
        simp only [spec_SumRule.j0, if_true]
      rw [hsp]
      have him : (if (decide (1 ≤ (l.length : Int) ∧ (l.length : Int) ≤ 5) && rowB s l) = true then (if ((l.length : Int) % 2) = 0 then (some (0, 0, ([] : List Int), false)) else ((impl_weighed.f (k + 1) s l).bind fun bt175 => (some (bt175.1, bt175.2.1, bt175.2.2, true)))) else (some (0, 0, ([] : List Int), false))) = some (0, 0, [], false) := by
        by_cases c : (decide (1 ≤ (l.length : Int) ∧ (l.length : Int) ≤ 5) && rowB s l) = true
        · rw [if_pos c]
          have c2 := of_decide_eq_true (Bool.and_eq_true_iff.mp c).1
          rw [if_pos (by omega)]
        · rw [if_neg c]
      rw [him]
      exact ⟨_, _, _, _, rfl, rfl, by simp⟩
  · have e2 : (if s = 2 then some true else some (s == 3)) = some false := by
      rw [if_neg (by omega)]; congr 1; simp; omega
    rw [e2, decide_eq_false (show ¬ (2 ≤ s ∧ s ≤ 3) by omega)]
    simp only [Option.bind_some, Bool.false_eq_true, if_false, spec_SumRule.j0, if_true]
    exact ⟨_, _, _, _, rfl, rfl, by simp⟩

theorem FnExactSumRule : laws_FnExactSumRule.Pure := by
  intro s l _ _ hl _
  have hn : l.length ≤ 140737488351232 := by omega
  obtain ⟨K, hK⟩ : ∃ K, K = l.length + 2001 := ⟨_, rfl⟩
  obtain ⟨s', r', y, b, h1, h2, hy⟩ := sum_same s l hn (K + 3) (by omega)
  obtain ⟨s2, r2, y2, b2, g1, g2, -⟩ := sum_same s l hn (K + 1) (by omega)
  have e := at_rounds (fun k => spec_SumRule.mono s l k) (show K + 1 ≤ K + 3 by omega) g1
  rw [h1] at e
  obtain ⟨rfl, rfl, rfl, rfl⟩ : s' = s2 ∧ r' = r2 ∧ y = y2 ∧ b = b2 := by simpa using e
  refine ⟨K + 3, ?_⟩
  unfold laws_FnExactSumRule.f
  by_cases hb : (l.length : Int) > 1048576
  · rw [if_pos hb]
  rw [if_neg hb, copy_f l hl _ (by omega)]
  have hbb : (b != b) = false := by cases b <;> rfl
  obtain ⟨m0, hm1, hm2, hm3⟩ := mark_f l hn (K + 2) (by omega)
  obtain ⟨m, gm1, gm2, gm3⟩ := markRule_f s' r' y (by omega) (K + 1) (by omega)
  have hh := heldRule_f s' r' m (by omega) gm3 (K + 1) (by omega)
  have hh' := heldRule_f s' r' m (by omega) gm3 K (by omega)
  rw [gm2] at hh hh'
  simp only [Option.bind_some, h1, h2, eqRule_f s' r' y (by omega) (K + 3) (by omega), if_true, laws_FnExactSumRule.j0, hbb, Bool.false_eq_true, if_false, copy_f l hl (K + 2) (by omega), eq_f l hn (K + 2) (by omega), hm1]
  rw [if_neg (by omega)]
  simp only [Option.bind_some, eqRule_f s' r' y (by omega) (K + 2) (by omega), if_true, laws_FnExactSumRule.j1, hbb, Bool.false_eq_true, if_false, gm1, hh]
  rw [if_neg (by omega)]
  simp only [copy_f l hl (K + 1) (by omega), Option.bind_some, g2, eqRule_f s' r' y (by omega) (K + 1) (by omega), if_true, laws_FnExactSumRule.j2, hbb, Bool.false_eq_true, if_false, hh']
  rw [if_neg (by omega)]

end Go.Proofs.Ytcigmgocllnhfaa.Pure
