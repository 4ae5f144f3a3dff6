/- The plain law of FnExactJoinRules, over the functions beside: program and reference answer alike. No condition beyond the stated bounds. -/
import Derived.Test.YtcigmgocllnhfaaQFnExactJoinRulesx8
namespace Go.Proofs.Ytcigmgocllnhfaa.Pure
open Go.RowKit Go.Proofs.Ytcigmgocllnhfaa.QFnExactJoinRules Go.Proofs.YtcigmgocllnhfaaW.PrintWords Go.Proofs.YtcigmgocllnhfaaW.PrintLast
set_option linter.unusedSimpArgs false
set_option linter.unusedVariables false

namespace FnExactJoinRulesParts
theorem eq_loop (x0 : List Int) (hn : x0.length ≤ 140737488351232) (d : Nat) : ∀ (k : Nat) (i : Int), 0 ≤ i → (x0.length : Int) - i = d → d < k → laws_eqInt64S.l0 k x0 x0 i = some true := by
  induction d with
  | zero =>
    intro k i h0 hd hk
    obtain ⟨k, rfl⟩ : ∃ m, k = m + 1 := ⟨k - 1, by omega⟩
    simp only [laws_eqInt64S.l0]
    rw [if_neg (by omega)]
  | succ d ih =>
    intro k i h0 hd hk
    obtain ⟨k, rfl⟩ : ∃ m, k = m + 1 := ⟨k - 1, by omega⟩
    simp only [laws_eqInt64S.l0]
    rw [if_pos (by omega), if_pos h0, if_pos (by omega), if_pos trivial, show wrap64 (i + 1) = i + 1 by unfold wrap64; omega]
    exact ih k (i + 1) (by omega) (by omega) (by omega)

theorem eq_f (x0 : List Int) (hn : x0.length ≤ 140737488351232) (k : Nat) (hk : x0.length < k) : laws_eqInt64S.f k x0 x0 = some true := by
  unfold laws_eqInt64S.f
  rw [if_pos rfl]
  exact eq_loop x0 hn x0.length k 0 (by omega) (by omega) hk

theorem rd_get (x : List Int) (i : Int) (h0 : 0 ≤ i) (h : i < (x.length : Int)) : x[i.toNat]? = some (rd x i) := by
  unfold rd
  rw [List.getD_eq_getElem?_getD, List.getElem?_eq_getElem (by omega)]
  rfl

theorem wrap_up {i : Int} {n : Nat} (h0 : 0 ≤ i) (h : i < (n : Int)) (hn : n ≤ 140737488351232) : wrap64 (i + 1) = i + 1 := by
  unfold wrap64; omega

theorem copy_loop (x0 : List Int) (hn : x0.length ≤ 140737488351232) (d : Nat) : ∀ (k : Nat) (x3 : List Int) (i : Int), 0 ≤ i → (x0.length : Int) - i = d → x3.length = x0.length →
    (∀ j : Nat, (j : Int) < i → x3[j]? = x0[j]?) → d < k → laws_toInt64S.l0 k x0 x3 i = some x0 := by
  induction d with
  | zero =>
    intro k x3 i h0 hd hl hj hk
    obtain ⟨k, rfl⟩ : ∃ m, k = m + 1 := ⟨k - 1, by omega⟩
    simp only [laws_toInt64S.l0]
    rw [if_neg (by omega)]
    congr 1
    apply List.ext_getElem?
    intro j
    by_cases h : (j : Int) < i
    · exact hj j h
    · rw [List.getElem?_eq_none (by omega), List.getElem?_eq_none (by omega)]
  | succ d ih =>
    intro k x3 i h0 hd hl hj hk
    obtain ⟨k, rfl⟩ : ∃ m, k = m + 1 := ⟨k - 1, by omega⟩
    simp only [laws_toInt64S.l0]
    rw [if_pos (by omega), if_pos h0, if_pos (by omega), wrap_up (n := x0.length) h0 (by omega) hn]
    refine ih k _ (i + 1) (by omega) (by omega) (by simpa using hl) ?_ (by omega)
    intro j hlt
    rw [List.getElem?_set]
    by_cases h : i.toNat = j
    · subst h
      rw [if_pos rfl, if_pos (by omega), rd_get x0 i h0 (by omega)]
    · rw [if_neg h]
      exact hj j (by omega)

theorem copy_f (x0 : List Int) (hn : x0.length * 8 ≤ 140737488351232) (k : Nat) (hk : x0.length < k) : laws_toInt64S.f k x0 = some x0 := by
  unfold laws_toInt64S.f
  rw [if_pos (by omega), if_pos (by omega)]
  exact copy_loop x0 (by omega) x0.length k _ 0 (by omega) (by omega) (by simp) (by intro j h; omega) hk

theorem in_f (a b c : Int) : spec_l00In.f a b c = some (decide (b ≤ a ∧ a ≤ c)) := by
  unfold spec_l00In.f
  by_cases h : a ≥ b
  · rw [if_pos h]; simp; omega
  · rw [if_neg h]; simp; omega

theorem within_f (a b c : Int) : impl_within.f a b c = some (decide (b ≤ a ∧ a ≤ c)) := by
  unfold impl_within.f
  by_cases h : a ≥ b
  · rw [if_pos h]; simp; omega
  · rw [if_neg h]; simp; omega


/-- What marking leaves: a, a + 1, .. -/
def Marked (a : Int) (x : List Int) : Prop := ∀ j : Nat, j < x.length → x[j]? = some (a + j)

theorem mark_loop (n : Nat) (hn : n ≤ 140737488351232) (d : Nat) : ∀ (k : Nat) (x : List Int) (i a : Int), 0 ≤ i → x.length = n → (n : Int) - i = d → a = 1 + i →
    (∀ j : Nat, (j : Int) < i → x[j]? = some (1 + (j : Int))) → d < k → ∃ y, laws_markInt64S.l0 k x a i = some (1 + (n : Int), y) ∧ y.length = n ∧ Marked 1 y := by
  induction d with
  | zero =>
    intro k x i a h0 hl hd ha hj hk
    obtain ⟨k, rfl⟩ : ∃ m, k = m + 1 := ⟨k - 1, by omega⟩
    simp only [laws_markInt64S.l0]
    rw [if_neg (by omega)]
    exact ⟨x, by rw [show a = 1 + (n : Int) by omega], hl, fun j h => hj j (by omega)⟩
  | succ d ih =>
    intro k x i a h0 hl hd ha hj hk
    obtain ⟨k, rfl⟩ : ∃ m, k = m + 1 := ⟨k - 1, by omega⟩
    simp only [laws_markInt64S.l0]
    rw [if_pos (by omega), if_pos h0, show wrap64 (i + 1) = i + 1 by unfold wrap64; omega, show wrap64 (a + 1) = a + 1 by unfold wrap64; omega]
    refine ih k _ (i + 1) (a + 1) (by omega) (by simpa using hl) (by omega) (by omega) ?_ (by omega)
    intro j hlt
    rw [List.getElem?_set]
    by_cases h : i.toNat = j
    · subst h
      rw [if_pos rfl, if_pos (by omega)]
      congr 1; omega
    · rw [if_neg h]
      exact hj j (by omega)

theorem mark_f (x : List Int) (hn : x.length ≤ 140737488351232) (k : Nat) (hk : x.length < k) : ∃ y, laws_markInt64S.f k x 1 = some (1 + (x.length : Int), y) ∧ y.length = x.length ∧ Marked 1 y := by
  unfold laws_markInt64S.f
  exact mark_loop x.length hn x.length k x 0 1 (by omega) rfl (by omega) (by omega) (by intro j h; omega) hk

theorem held_loop (x : List Int) (hn : x.length ≤ 140737488351232) (hm : Marked 1 x) (d : Nat) : ∀ (k : Nat) (i a : Int), 0 ≤ i → (x.length : Int) - i = d → a = 1 + i → d < k →
    laws_heldInt64S.l0 k x a i = some (1 + (x.length : Int)) := by
  induction d with
  | zero =>
    intro k i a h0 hd ha hk
    obtain ⟨k, rfl⟩ : ∃ m, k = m + 1 := ⟨k - 1, by omega⟩
    simp only [laws_heldInt64S.l0]
    rw [if_neg (by omega)]
    congr 1; omega
  | succ d ih =>
    intro k i a h0 hd ha hk
    obtain ⟨k, rfl⟩ : ∃ m, k = m + 1 := ⟨k - 1, by omega⟩
    simp only [laws_heldInt64S.l0]
    have hr : rd x i = a := by
      have h1 := hm i.toNat (by omega)
      unfold rd
      rw [List.getD_eq_getElem?_getD, h1]
      simp; omega
    rw [if_pos (by omega), if_pos h0, if_pos hr, show wrap64 (i + 1) = i + 1 by unfold wrap64; omega, show wrap64 (a + 1) = a + 1 by unfold wrap64; omega]
    exact ih k (i + 1) (a + 1) (by omega) (by omega) (by omega) (by omega)

theorem held_f (x : List Int) (hn : x.length ≤ 140737488351232) (hm : Marked 1 x) (k : Nat) (hk : x.length < k) : laws_heldInt64S.f k x 1 = some (1 + (x.length : Int)) := by
  unfold laws_heldInt64S.f
  exact held_loop x hn hm x.length k 0 1 (by omega) (by omega) (by omega) hk

theorem markRule_f (s r : Int) (x : List Int) (hn : x.length ≤ 140737488351232) (k : Nat) (hk : x.length < k) : ∃ y, laws_markRule.f k s r x 1 = some (1 + (x.length : Int), y) ∧ y.length = x.length ∧ Marked 1 y := by
  obtain ⟨y, h1, h2, h3⟩ := mark_f x hn k hk
  refine ⟨y, ?_, h2, h3⟩
  unfold laws_markRule.f
  rw [h1]
  rfl

theorem heldRule_f (s r : Int) (x : List Int) (hn : x.length ≤ 140737488351232) (hm : Marked 1 x) (k : Nat) (hk : x.length < k) : laws_heldRule.f k s r x 1 = some (1 + (x.length : Int)) := by
  unfold laws_heldRule.f
  rw [held_f x hn hm k hk]
  simp only [Option.bind_some]
  rw [if_neg (by omega)]

open Go.Proofs.Ytcigmgocllnhfaa.Va in
theorem areWithin_f (x : List Int) (hn : x.length ≤ 140737488351232) (t : Int) (d : Nat) : ∀ (k : Nat) (i : Nat), x.length - i = d → i ≤ x.length → d < k →
    impl_areWithin.l0 k 0 (t - 1) x x.length (i : Int) = some (rowB t (x.drop i)) := by
  induction d with
  | zero =>
    intro k i hd hi hk
    obtain ⟨k, rfl⟩ : ∃ m, k = m + 1 := ⟨k - 1, by omega⟩
    simp only [impl_areWithin.l0]
    rw [if_neg (by omega), show i = x.length by omega, List.drop_length]
    rfl
  | succ d ih =>
    intro k i hd hi hk
    obtain ⟨k, rfl⟩ : ∃ m, k = m + 1 := ⟨k - 1, by omega⟩
    simp only [impl_areWithin.l0, if_pos (show (i : Int) < (x.length : Int) by omega), if_pos (show 0 ≤ (i : Int) by omega), within_f, Option.bind_some, show wrap64 ((i : Int) + 1) = ((i + 1 : Nat) : Int) by unfold wrap64; omega]
    rw [rowB_drop t x i (by omega)]
    cases hb : decide (0 ≤ rd x (i : Int) ∧ rd x (i : Int) ≤ t - 1) with
    | true => simp only [if_true, Bool.true_and]; exact ih k (i + 1) (by omega) (by omega) (by omega)
    | false => simp only [Bool.false_eq_true, if_false, Bool.false_and]

theorem raised_f (k : Nat) (hk : 8 ≤ k) : impl_raised.f k 2 1 = some 2 ∧ impl_raised.f k 2 3 = some 8 ∧ impl_raised.f k 2 5 = some 32 ∧ impl_raised.f k 3 1 = some 3 ∧ impl_raised.f k 3 3 = some 27 ∧ impl_raised.f k 3 5 = some 243 := by
  obtain ⟨k, rfl⟩ : ∃ m, k = m + 8 := ⟨k - 8, by omega⟩
  refine ⟨?_, ?_, ?_, ?_, ?_, ?_⟩ <;> simp [impl_raised.f, impl_raised.l0, wrap64]

open Go.Proofs.Ytcigmgocllnhfaa.Va in
theorem validB_at (s c : Int) (l : List Int) (n : Int) (hs : s = 2 ∨ s = 3) (hc : 0 ≤ c ∧ c ≤ 2) (hn : s ^ (2 * c + 1).toNat = n) : validB s c l = (decide ((l.length : Int) = n) && rowB s l) := by
  unfold validB
  rw [decide_eq_true (show 2 ≤ s ∧ s ≤ 3 by omega), decide_eq_true hc, hn]; rfl

open Go.Proofs.Ytcigmgocllnhfaa.Va in
theorem many_f (s n : Int) (l : List Int) (hs : s = 2 ∨ s = 3) (hn : l.length ≤ 140737488351232) (k : Nat) (hk : l.length < k) : impl_areMany.f k l n n 0 (wrap64 (s - 1)) = some (decide ((l.length : Int) = n) && rowB s l) := by
  have e : wrap64 (s - 1) = s - 1 := by unfold wrap64; omega
  unfold impl_areMany.f impl_areWithin.f
  rw [within_f, e]
  simp only [Option.bind_some]
  have h := areWithin_f l hn s l.length k 0 (by omega) (by omega) hk
  rw [List.drop_zero] at h
  by_cases hl : (l.length : Int) = n
  · rw [decide_eq_true (show n ≤ (l.length : Int) ∧ (l.length : Int) ≤ n by omega), decide_eq_true hl]
    simp only [if_true, Bool.true_and]
    rw [show ((0 : Nat) : Int) = 0 from rfl] at h
    rw [h]; rfl
  · rw [decide_eq_false (show ¬ (n ≤ (l.length : Int) ∧ (l.length : Int) ≤ n) by omega), decide_eq_false hl]
    simp only [Bool.false_eq_true, if_false, Bool.false_and]

open Go.Proofs.Ytcigmgocllnhfaa.Va in
theorem valid_f (s c : Int) (l : List Int) (hn : l.length ≤ 140737488351232) (k : Nat) (hk : l.length + 10 < k) : impl_ValidRule.f k s c l = some (validB s c l) := by
  obtain ⟨k, rfl⟩ : ∃ m, k = m + 1 := ⟨k - 1, by omega⟩
  unfold impl_ValidRule.f impl_areStates.f impl_isReach.f
  rw [within_f]
  by_cases hs : s = 2 ∨ s = 3
  · have e2 : (if s = 2 then some true else some (s == 3)) = some true := by rcases hs with rfl | rfl <;> rfl
    rw [e2]
    simp only [Option.bind_some, if_true]
    by_cases hc : 0 ≤ c ∧ c ≤ 2
    · rw [decide_eq_true hc]
      simp only [Bool.not_true, impl_ValidRule.j0, Bool.false_eq_true, if_false, impl_Rule_cells.f, Option.bind_some]
      have hr := raised_f k (by omega)
      have hc3 : c = 0 ∨ c = 1 ∨ c = 2 := by omega
      have w0 : wrap64 (wrap64 (2 * 0) + 1) = 1 := by unfold wrap64; omega
      have w1 : wrap64 (wrap64 (2 * 1) + 1) = 3 := by unfold wrap64; omega
      have w2 : wrap64 (wrap64 (2 * 2) + 1) = 5 := by unfold wrap64; omega
      have key : ∀ n : Int, s ^ (2 * c + 1).toNat = n → impl_raised.f k s (wrap64 (wrap64 (2 * c) + 1)) = some n →
          ((impl_raised.f k s (wrap64 (wrap64 (2 * c) + 1))).bind fun t137 => (impl_areMany.f k l t137 t137 0 (wrap64 (s - 1))).bind fun t138 => some t138) = some (validB s c l) := by
        intro n h1 h2
        rw [h2]
        simp only [Option.bind_some]
        rw [many_f s n l hs hn k (by omega), validB_at s c l n hs hc h1]
        rfl
      rcases hs with rfl | rfl <;> rcases hc3 with rfl | rfl | rfl
      · exact key 2 (by decide) (by rw [w0]; exact hr.1)
      · exact key 8 (by decide) (by rw [w1]; exact hr.2.1)
      · exact key 32 (by decide) (by rw [w2]; exact hr.2.2.1)
      · exact key 3 (by decide) (by rw [w0]; exact hr.2.2.2.1)
      · exact key 27 (by decide) (by rw [w1]; exact hr.2.2.2.2.1)
      · exact key 243 (by decide) (by rw [w2]; exact hr.2.2.2.2.2)
    · rw [decide_eq_false hc]
      simp only [Bool.not_false, impl_ValidRule.j0, if_true]
      unfold validB
      rw [decide_eq_false hc]; simp
  · have h2 : ¬ s = 2 := by omega
    have h3 : (s == 3) = false := by simp; omega
    rw [if_neg h2, h3]
    simp only [Option.bind_some, Bool.false_eq_true, if_false, impl_ValidRule.j0, if_true]
    unfold validB
    rw [decide_eq_false (show ¬ (2 ≤ s ∧ s ≤ 3) by omega)]; rfl

/-- Both bounds of a whole number of 64 bits. -/
def I64 (x : Int) : Prop := -9223372036854775808 ≤ x ∧ x ≤ 9223372036854775807

open Go.Proofs.Ytcigmgocllnhfaa.Va in
theorem is_f (s c : Int) (l : List Int) (hs : I64 s) (hc : I64 c) (hn : l.length ≤ 140737488351232) (k : Nat) : spec_l02Is.f k s c l = some (validB s c l) := by
  unfold spec_l02Is.f
  rw [if_pos ⟨hs, hc, hn⟩]

theorem sz_f (s c : Int) (l : List Int) (hn : l.length ≤ 9223372036854775807) (b : Int) (hb : 0 ≤ b ∧ b ≤ 1048576) : laws_szRule.f s c l b = some (if (l.length : Int) ≤ b then b - l.length else -1) := by
  unfold laws_szRule.f laws_szInt64S.f
  have e : wrap64 (b - (l.length : Int)) = b - l.length := by unfold wrap64; omega
  rw [e]
  by_cases h : (l.length : Int) ≤ b
  · rw [if_neg (by omega), if_pos h]; simp only [Option.bind_some]; rw [if_neg (by omega)]
  · rw [if_pos (by omega), if_neg h]; rfl

theorem toRule_f (s c : Int) (l : List Int) (hn : l.length ≤ 1048576) (k : Nat) (hk : l.length < k) : laws_toRule.f k s c l = some (s, c, l) := by
  unfold laws_toRule.f
  rw [copy_f l (by omega) k hk]; rfl

theorem eqRule_f (s r : Int) (x : List Int) (hn : x.length ≤ 140737488351232) (k : Nat) (hk : x.length < k) : laws_eqRule.f k s r x s r x = some true := by
  unfold laws_eqRule.f
  rw [if_pos rfl, if_pos rfl, eq_f x hn k hk]
  rfl

/-- The digits of a number, the greatest one first. -/
def digs (s : Nat) : Nat → Nat → List Int
  | 0, _ => []
  | n + 1, x => digs s n (x / s) ++ [((x % s : Nat) : Int)]
theorem digs_len (s : Nat) : ∀ n x, (digs s n x).length = n
  | 0, _ => rfl
  | n + 1, x => by simp [digs, digs_len s n]
theorem digs_lt (s : Nat) (hs : 0 < s) : ∀ n x, ∀ y ∈ digs s n x, 0 ≤ y ∧ y ≤ (s : Int) - 1
  | 0, _ => by simp [digs]
  | n + 1, x => by
    intro y hy
    rcases List.mem_append.mp hy with h | h
    · exact digs_lt s hs n _ y h
    · have h' : y = ((x % s : Nat) : Int) := by simpa using h
      subst h'
      have := Nat.mod_lt x hs
      omega
theorem spec_digits_loop (s : Nat) (hs : s = 2 ∨ s = 3) : ∀ (n k x : Nat) (l : List Int), x ≤ 1000000 → n ≤ l.length → n ≤ 1000 → n < k → spec_l02Digits.l0 k (x : Int) (s : Int) l ((n : Int) - 1) = some (digs s n x ++ l.drop n) := by
  intro n
  induction n with
  | zero =>
    intro k x l hx hl hn hk
    obtain ⟨k, rfl⟩ : ∃ m, k = m + 1 := ⟨k - 1, by omega⟩
    simp only [spec_l02Digits.l0]
    rw [if_neg (by omega)]
    rfl
  | succ n ih =>
    intro k x l hx hl hn hk
    obtain ⟨k, rfl⟩ : ∃ m, k = m + 1 := ⟨k - 1, by omega⟩
    have ed : Int.tdiv (x : Int) (s : Int) = ((x / s : Nat) : Int) := rfl
    have em : Int.tmod (x : Int) (s : Int) = ((x % s : Nat) : Int) := rfl
    have hd : x / s ≤ x := Nat.div_le_self _ _
    have he : digs s (n + 1) x = digs s n (x / s) ++ [((x % s : Nat) : Int)] := rfl
    rw [he]
    clear he
    revert ed em hd
    generalize x / s = q
    generalize x % s = z
    intro ed em hd
    simp only [spec_l02Digits.l0]
    rw [if_pos (by omega), if_neg (by omega), if_pos (by omega), if_pos (by omega), ed, em, show wrap64 (q : Int) = (q : Int) by unfold wrap64; omega, show wrap64 (((n + 1 : Nat) : Int) - 1 - 1) = ((n : Nat) : Int) - 1 by unfold wrap64; omega, show (((n + 1 : Nat) : Int) - 1).toNat = n by omega]
    rw [ih k q (l.set n (z : Int)) (by omega) (by simp; omega) (by omega) (by omega)]
    congr 1
    rw [List.append_assoc]
    congr 1
    rw [List.drop_eq_getElem_cons (by simp; omega), List.drop_set_of_lt (by omega)]
    simp
theorem spec_digits_f (s : Nat) (hs : s = 2 ∨ s = 3) (n x k : Nat) (hx : x ≤ 1000000) (hn : n ≤ 1000) (hk : n < k) : spec_l02Digits.f k (x : Int) (s : Int) (n : Int) = some (digs s n x) := by
  unfold spec_l02Digits.f
  rw [if_pos (by omega), show ((n : Nat) : Int).toNat = n by omega, if_pos (by omega), show wrap64 ((n : Int) - 1) = (n : Int) - 1 by unfold wrap64; omega]
  rw [spec_digits_loop s hs n k x (List.replicate n 0) hx (by simp) hn hk]
  simp
theorem impl_digits_loop (s : Nat) (hs : s = 2 ∨ s = 3) : ∀ (n k x : Nat) (l : List Int), x ≤ 1000000 → n ≤ l.length → n ≤ 1000 → n < k → impl_digitsOf.l0 k (x : Int) (s : Int) l ((n : Int) - 1) = some (digs s n x ++ l.drop n) := by
  intro n
  induction n with
  | zero =>
    intro k x l hx hl hn hk
    obtain ⟨k, rfl⟩ : ∃ m, k = m + 1 := ⟨k - 1, by omega⟩
    simp only [impl_digitsOf.l0]
    rw [if_neg (by omega)]
    rfl
  | succ n ih =>
    intro k x l hx hl hn hk
    obtain ⟨k, rfl⟩ : ∃ m, k = m + 1 := ⟨k - 1, by omega⟩
    have ed : Int.tdiv (x : Int) (s : Int) = ((x / s : Nat) : Int) := rfl
    have em : Int.tmod (x : Int) (s : Int) = ((x % s : Nat) : Int) := rfl
    have hd : x / s ≤ x := Nat.div_le_self _ _
    have he : digs s (n + 1) x = digs s n (x / s) ++ [((x % s : Nat) : Int)] := rfl
    rw [he]
    clear he
    revert ed em hd
    generalize x / s = q
    generalize x % s = z
    intro ed em hd
    simp only [impl_digitsOf.l0]
    rw [if_pos (by omega), if_neg (by omega), if_pos (by omega), if_pos (by omega), ed, em, show wrap64 (q : Int) = (q : Int) by unfold wrap64; omega, show wrap64 (((n + 1 : Nat) : Int) - 1 - 1) = ((n : Nat) : Int) - 1 by unfold wrap64; omega, show (((n + 1 : Nat) : Int) - 1).toNat = n by omega]
    rw [ih k q (l.set n (z : Int)) (by omega) (by simp; omega) (by omega) (by omega)]
    congr 1
    rw [List.append_assoc]
    congr 1
    rw [List.drop_eq_getElem_cons (by simp; omega), List.drop_set_of_lt (by omega)]
    simp
theorem impl_digits_f (s : Nat) (hs : s = 2 ∨ s = 3) (n x k : Nat) (hx : x ≤ 1000000) (hn : n ≤ 1000) (hk : n < k) : impl_digitsOf.f k (x : Int) (s : Int) (n : Int) = some (digs s n x) := by
  unfold impl_digitsOf.f
  rw [if_pos (by omega), show ((n : Nat) : Int).toNat = n by omega, if_pos (by omega), show wrap64 ((n : Int) - 1) = (n : Int) - 1 by unfold wrap64; omega]
  rw [impl_digits_loop s hs n k x (List.replicate n 0) hx (by simp) hn hk]
  simp

structure PowFacts (s long : Nat) : Prop where
  hs : s = 2 ∨ s = 3
  hl : long ≤ 5
  hp : s ^ long ≤ 243
  pw : spec_l02Powers.f 12 (s : Int) (long : Int) = some ((s ^ long : Nat) : Int)
  ra : impl_raised.f 12 (s : Int) (long : Int) = some ((s ^ long : Nat) : Int)
theorem powFacts21 : PowFacts 2 1 := ⟨by decide, by decide, by decide, by decide +kernel, by decide +kernel⟩
theorem powFacts23 : PowFacts 2 3 := ⟨by decide, by decide, by decide, by decide +kernel, by decide +kernel⟩
theorem powFacts25 : PowFacts 2 5 := ⟨by decide, by decide, by decide, by decide +kernel, by decide +kernel⟩
theorem powFacts31 : PowFacts 3 1 := ⟨by decide, by decide, by decide, by decide +kernel, by decide +kernel⟩
theorem powFacts33 : PowFacts 3 3 := ⟨by decide, by decide, by decide, by decide +kernel, by decide +kernel⟩
theorem powFacts35 : PowFacts 3 5 := ⟨by decide, by decide, by decide, by decide +kernel, by decide +kernel⟩
theorem powFacts (s r : Nat) (hs : s = 2 ∨ s = 3) (hr : r = 0 ∨ r = 1 ∨ r = 2) : PowFacts s (2 * r + 1) := by
  rcases hs with rfl | rfl <;> rcases hr with rfl | rfl | rfl
  · exact powFacts21
  · exact powFacts23
  · exact powFacts25
  · exact powFacts31
  · exact powFacts33
  · exact powFacts35

/-- s to the power of n. -/
def pwI (s : Int) : Nat → Int
  | 0 => 1
  | n + 1 => pwI s n * s
theorem pwI_pos (s : Int) (hs : s = 2 ∨ s = 3) : ∀ n, 1 ≤ pwI s n
  | 0 => by simp [pwI]
  | n + 1 => by
    have := pwI_pos s hs n
    unfold pwI
    rcases hs with rfl | rfl <;> omega
theorem rd_mem (t : List Int) (i : Nat) (h : i < t.length) : rd t (i : Int) ∈ t := by
  have : rd t (i : Int) = t[i] := by
    unfold rd; rw [List.getD_eq_getElem?_getD]; simp [h]
  rw [this]; exact List.getElem_mem _
theorem num_loop (s : Int) (hs : s = 2 ∨ s = 3) (t : List Int) (ht : ∀ y ∈ t, 0 ≤ y ∧ y ≤ s - 1) (hl : t.length ≤ 1000) (d : Nat) : ∀ (i : Nat) (a B : Int), i + d = t.length → 0 ≤ a → a < B → B * pwI s d ≤ 1000000 →
    ∃ v, 0 ≤ v ∧ v < B * pwI s d ∧ ∀ k, d < k → spec_l02Index.l0 k t s a (i : Int) = some v ∧ impl_numberOf.l0 k s a t (t.length : Int) (i : Int) = some v := by
  induction d with
  | zero =>
    intro i a B hi h0 h1 hB
    refine ⟨a, h0, by unfold pwI; omega, ?_⟩
    intro k hk
    obtain ⟨k, rfl⟩ : ∃ m, k = m + 1 := ⟨k - 1, by omega⟩
    refine ⟨?_, ?_⟩
    · simp only [spec_l02Index.l0]
      rw [if_neg (show ¬ (i : Int) < (t.length : Int) by omega)]
    · simp only [impl_numberOf.l0]
      rw [if_neg (show ¬ (i : Int) < (t.length : Int) by omega)]
  | succ d ih =>
    intro i a B hi h0 h1 hB
    have q1 : (i : Int) < (t.length : Int) := by clear ih ht hB hl h0 h1; omega
    have q2 : 0 ≤ (i : Int) := Int.natCast_nonneg i
    have hb := ht _ (rd_mem t i (by omega))
    obtain ⟨c, hc⟩ : ∃ c, rd t (i : Int) = c := ⟨_, rfl⟩
    rw [hc] at hb
    have hp := pwI_pos s hs d
    have e : B * pwI s (d + 1) = B * s * pwI s d := by
      show B * (pwI s d * s) = B * s * pwI s d
      rw [Int.mul_assoc, Int.mul_comm s]
    rw [e] at hB ⊢
    have hBs : B * s ≤ 1000000 := by
      have h2 : B * s * 1 ≤ B * s * pwI s d := Int.mul_le_mul_of_nonneg_left hp (by rcases hs with rfl | rfl <;> omega)
      omega
    obtain ⟨v, v0, v1, v2⟩ := ih (i + 1) (a * s + c) (B * s) (by omega) (by rcases hs with rfl | rfl <;> omega) (by rcases hs with rfl | rfl <;> omega) hB
    refine ⟨v, v0, v1, ?_⟩
    intro k hk
    obtain ⟨k, rfl⟩ : ∃ m, k = m + 1 := ⟨k - 1, by omega⟩
    have w1 : wrap64 (a * s) = a * s := by unfold wrap64; rcases hs with rfl | rfl <;> omega
    have w2 : wrap64 (a * s + c) = a * s + c := by unfold wrap64; rcases hs with rfl | rfl <;> omega
    have w3 : wrap64 ((i : Int) + 1) = ((i + 1 : Nat) : Int) := by unfold wrap64; omega
    obtain ⟨g1, g2⟩ := v2 k (by omega)
    refine ⟨?_, ?_⟩
    · simp only [spec_l02Index.l0]
      rw [if_pos q1, if_pos q2, hc, w1, w2, w3]
      exact g1
    · simp only [impl_numberOf.l0]
      rw [if_pos q1, if_pos q2, if_pos q1, hc, w1, w2, w3]
      exact g2
theorem num_f (s : Int) (hs : s = 2 ∨ s = 3) (t : List Int) (ht : ∀ y ∈ t, 0 ≤ y ∧ y ≤ s - 1) (hl : t.length ≤ 1000) (hp : pwI s t.length ≤ 1000000) :
    ∃ v, 0 ≤ v ∧ v < pwI s t.length ∧ ∀ k, t.length < k → spec_l02Index.f k t s = some v ∧ impl_numberOf.f k t s = some v := by
  obtain ⟨v, v0, v1, v2⟩ := num_loop s hs t ht hl t.length 0 0 1 (by omega) (by omega) (by omega) (by omega)
  rw [Int.one_mul] at v1
  exact ⟨v, v0, v1, v2⟩

/-- impl.made's loop, over variables alone. -/
theorem made_gen (tell : Nat → List Int → Option Int) (s r long : Int) (N : Nat) (hN : N ≤ 243) (h4 : wrap64 (wrap64 (2 * r) + 1) = long) (val : Nat → Int)
    (hst : ∀ x, x < N → ∃ t, (∀ k, 12 ≤ k → impl_digitsOf.f k (x : Int) s long = some t) ∧ ∀ k, 12 ≤ k → tell k t = some (val x)) (d : Nat) : ∀ (k x : Nat) (acc : List Int), x + d = N → acc.length = x → d + 14 < k →
    impl_made.l0 tell k s (N : Int) (x : Int) s r acc = some (s, r, acc ++ (List.range' x d).map val) := by
  induction d with
  | zero =>
    intro k x acc hx ha hk
    obtain ⟨k, rfl⟩ : ∃ m, k = m + 1 := ⟨k - 1, by omega⟩
    have q1 : ¬ (x : Int) < (N : Int) := by omega
    simp only [impl_made.l0]
    rw [if_neg q1]
    simp
  | succ d ih =>
    intro k x acc hx ha hk
    obtain ⟨k, rfl⟩ : ∃ m, k = m + 1 := ⟨k - 1, by omega⟩
    have hxN : x < N := by omega
    have q1 : (x : Int) < (N : Int) := by omega
    have q2 : acc.length < 17592186044416 := by omega
    have q3 : wrap64 ((x : Int) + 1) = ((x + 1 : Nat) : Int) := by unfold wrap64; omega
    obtain ⟨t, h1, h2⟩ := hst x hxN
    have g1 := h1 k (by omega)
    have g2 := h2 k (by omega)
    have g3 := ih k (x + 1) (acc ++ [val x]) (by omega) (by simp; omega) (by omega)
    simp only [impl_made.l0, impl_Rule_cells.f]
    rw [if_pos q1]
    simp only [Option.bind_some]
    rw [h4, g1]
    simp only [Option.bind_some]
    rw [g2]
    simp only [Option.bind_some]
    rw [if_pos q2, q3, g3, List.range'_succ, List.map_cons, List.append_assoc]
    rfl

end FnExactJoinRulesParts
open FnExactJoinRulesParts

theorem mark_any (d : Nat) : ∀ (k : Nat) (x : List Int) (i : Nat) (a : Int), i + d = x.length → x.length ≤ 140737488351232 → 0 ≤ a → a ≤ 2000000 + (i : Int) → d < k → ∃ y, laws_markInt64S.l0 k x a (i : Int) = some (a + d, y) := by
  induction d with
  | zero =>
    intro k x i a hi hn ha hb hk
    obtain ⟨k, rfl⟩ : ∃ m, k = m + 1 := ⟨k - 1, by omega⟩
    simp only [laws_markInt64S.l0]
    rw [if_neg (by omega)]
    exact ⟨x, by simp⟩
  | succ d ih =>
    intro k x i a hi hn ha hb hk
    obtain ⟨k, rfl⟩ : ∃ m, k = m + 1 := ⟨k - 1, by omega⟩
    have q1 : (i : Int) < (x.length : Int) := by omega
    have q2 : 0 ≤ (i : Int) := Int.natCast_nonneg i
    obtain ⟨y, hy⟩ := ih k (x.set i a) (i + 1) (a + 1) (by rw [List.length_set]; omega) (by rw [List.length_set]; exact hn) (by omega) (by omega) (by omega)
    simp only [laws_markInt64S.l0]
    rw [if_pos q1, if_pos q2, show wrap64 ((i : Int) + 1) = ((i + 1 : Nat) : Int) by unfold wrap64; omega, show wrap64 (a + 1) = a + 1 by unfold wrap64; omega, show ((i : Nat) : Int).toNat = i from rfl, hy]
    exact ⟨y, by congr 2; omega⟩
theorem markRule_any (s r : Int) (x : List Int) (a : Int) (hn : x.length ≤ 1048576) (ha : 0 ≤ a) (hb : a ≤ 2000000) (k : Nat) (hk : x.length < k) : ∃ n y, laws_markRule.f k s r x a = some (n, y) ∧ 0 ≤ n := by
  obtain ⟨y, hy⟩ := mark_any x.length k x 0 a (Nat.zero_add _) (by omega) ha (by omega) hk
  refine ⟨a + x.length, y, ?_, by omega⟩
  unfold laws_markRule.f laws_markInt64S.f
  rw [show (0 : Int) = ((0 : Nat) : Int) from rfl, hy]
  rfl
/-- The number of digits, as the reference reads it. -/
def nv (s : Int) (l : List Int) : Int := (spec_l02Index.f 6 l s).getD 0
theorem nv_f (s : Int) (hs : s = 2 ∨ s = 3) (t : List Int) (ht : ∀ y ∈ t, 0 ≤ y ∧ y ≤ s - 1) (hl : t.length ≤ 5) (n : Int) (hp : pwI s t.length = n) (hn : n ≤ 1000000) :
    0 ≤ nv s t ∧ nv s t < n ∧ ∀ k, 6 ≤ k → spec_l02Index.f k t s = some (nv s t) ∧ impl_numberOf.f k t s = some (nv s t) := by
  subst hp
  obtain ⟨v, v0, v1, v2⟩ := num_f s hs t ht (by omega) hn
  have e : nv s t = v := by unfold nv; rw [(v2 6 (by omega)).1]; rfl
  rw [e]
  exact ⟨v0, v1, fun k hk => v2 k (by omega)⟩
theorem shorter_loop (s c : Int) (la t : List Int) (W M : Nat) (hc : wrap64 (wrap64 (2 * c) + 1) = (W : Int)) (hW : 1 ≤ W) (hWM : M + W = t.length + 1) (hl : t.length ≤ 1000) (vv : Nat → Int)
    (hv : ∀ j, j < M → (∀ k, 6 ≤ k → impl_numberOf.f k ((t.take (j + W)).drop j) s = some (vv j)) ∧ 0 ≤ vv j ∧ vv j < (la.length : Int)) : ∀ (d j : Nat) (acc : List Int) (k : Nat), j + d = M → acc.length = j → d + 7 ≤ k →
    impl_Rule_shorter.l0 k t acc (j : Int) s c la = some (acc ++ (List.range' j d).map fun j => rd la (vv j)) := by
  intro d
  induction d with
  | zero =>
    intro j acc k hj ha hk
    obtain ⟨k, rfl⟩ : ∃ m, k = m + 1 := ⟨k - 1, by omega⟩
    have q1 : ¬ wrap64 ((j : Int) + (W : Int)) ≤ (t.length : Int) := by unfold wrap64; omega
    simp only [impl_Rule_shorter.l0, impl_Rule_cells.f, Option.bind_some]
    rw [hc, if_neg q1]
    simp
  | succ d ih =>
    intro j acc k hj ha hk
    obtain ⟨k, rfl⟩ : ∃ m, k = m + 1 := ⟨k - 1, by omega⟩
    have e1 : wrap64 ((j : Int) + (W : Int)) = ((j + W : Nat) : Int) := by unfold wrap64; omega
    have q1 : ((j + W : Nat) : Int) ≤ (t.length : Int) := by omega
    have q2 : 0 ≤ (j : Int) := Int.natCast_nonneg j
    have q3 : (j : Int) ≤ ((j + W : Nat) : Int) := by omega
    have q4 : acc.length < 17592186044416 := by omega
    have q5 : wrap64 ((j : Int) + 1) = ((j + 1 : Nat) : Int) := by unfold wrap64; omega
    obtain ⟨h1, h2, h3⟩ := hv j (by omega)
    have g := h1 k (by omega)
    have gi := ih (j + 1) (acc ++ [rd la (vv j)]) k (by omega) (by simp; omega) (by omega)
    simp only [impl_Rule_shorter.l0, impl_Rule_cells.f, Option.bind_some]
    rw [hc, e1, if_pos q1, if_pos q2, if_pos q3, if_pos q1, show ((j + W : Nat) : Int).toNat = j + W from rfl, show ((j : Nat) : Int).toNat = j from rfl]
    unfold impl_Rule_tells.f
    rw [g]
    simp only [Option.bind_some]
    rw [if_pos h2, if_pos h3]
    simp only [Option.bind_some]
    rw [if_pos q4, q5, gi, List.range'_succ, List.map_cons, List.append_assoc]
    rfl
theorem spec_inner (s c s' c' : Int) (la lb t : List Int) (W M : Nat) (hc : wrap64 (2 * c) + 1 = (W : Int)) (hc' : wrap64 (wrap64 (2 * c') + 1) = (M : Int)) (hW : 1 ≤ W) (hWM : M + W = t.length + 1) (hl : t.length ≤ 1000) (vv : Nat → Int) (md : List Int) (vF : Int)
    (hv : ∀ j, j < M → (∀ k, 6 ≤ k → spec_l02Index.f k ((t.take (j + W)).drop j) s = some (vv j)) ∧ 0 ≤ vv j ∧ vv j < (la.length : Int))
    (hF : ∀ k, 6 ≤ k → spec_l02Index.f k md s = some vF) (f0 : 0 ≤ vF) (f1 : vF < (lb.length : Int)) (x7 x8 z1 z2 : Int) (acc2 : List Int) (h2 : acc2.length < 17592186044416) (m : Nat) (hm : 12 ≤ m) : ∀ (d j : Nat) (acc : List Int), j + d = M → acc.length = j → acc ++ ((List.range' j d).map fun j => rd la (vv j)) = md →
    spec_JoinRules.l1 (m + d + 1) x7 x8 t acc (j : Int) s c la s' c' lb z1 z2 acc2 = spec_JoinRules.l0 m x7 (wrap64 (x8 + 1)) s c la s' c' lb z1 z2 (acc2 ++ [rd lb vF]) := by
  intro d
  induction d with
  | zero =>
    intro j acc hj ha hmd
    have q1 : ¬ (j : Int) < (M : Int) := by omega
    have hmd' : acc = md := by rw [← hmd]; simp
    have g := hF m (by omega)
    show spec_JoinRules.l1 (m + 1) x7 x8 t acc (j : Int) s c la s' c' lb z1 z2 acc2 = _
    simp only [spec_JoinRules.l1]
    rw [hc', if_neg q1, hmd', g]
    simp only [Option.bind_some]
    rw [if_pos f0, if_pos f1, if_pos h2]
  | succ d ih =>
    intro j acc hj ha hmd
    have e1 : wrap64 (wrap64 ((j : Int) + wrap64 (2 * c)) + 1) = ((j + W : Nat) : Int) := by
      generalize wrap64 (2 * c) = y at hc
      unfold wrap64; omega
    have q0 : (j : Int) < (M : Int) := by omega
    have q1 : ((j + W : Nat) : Int) ≤ (t.length : Int) := by omega
    have q2 : 0 ≤ (j : Int) := Int.natCast_nonneg j
    have q3 : (j : Int) ≤ ((j + W : Nat) : Int) := by omega
    have q4 : acc.length < 17592186044416 := by omega
    have q5 : wrap64 ((j : Int) + 1) = ((j + 1 : Nat) : Int) := by unfold wrap64; omega
    obtain ⟨h1, h3, h4⟩ := hv j (by omega)
    have g := h1 (m + d + 1) (by omega)
    have gi := ih (j + 1) (acc ++ [rd la (vv j)]) (by omega) (by simp; omega) (by rw [← hmd, List.range'_succ, List.map_cons, List.append_assoc]; rfl)
    show spec_JoinRules.l1 ((m + d + 1) + 1) x7 x8 t acc (j : Int) s c la s' c' lb z1 z2 acc2 = _
    generalize m + d + 1 = K at g gi ⊢
    simp only [spec_JoinRules.l1]
    rw [hc', if_pos q0, if_pos q2, e1, if_pos q3, if_pos q1, show ((j + W : Nat) : Int).toNat = j + W from rfl, show ((j : Nat) : Int).toNat = j from rfl, g]
    simp only [Option.bind_some]
    rw [if_pos h3, if_pos h4, if_pos q4, q5]
    exact gi
/-- What is known of one neighbourhood t: the windows' numbers vv, and the number vF of what they tell. -/
structure Told (s : Int) (la lb t : List Int) (W M : Nat) (vv : Nat → Int) (vF : Int) : Prop where
  len : M + W = t.length + 1
  small : t.length ≤ 5
  vs : ∀ j, j < M → (∀ k, 6 ≤ k → spec_l02Index.f k ((t.take (j + W)).drop j) s = some (vv j)) ∧ 0 ≤ vv j ∧ vv j < (la.length : Int)
  vi : ∀ j, j < M → (∀ k, 6 ≤ k → impl_numberOf.f k ((t.take (j + W)).drop j) s = some (vv j)) ∧ 0 ≤ vv j ∧ vv j < (la.length : Int)
  fs : ∀ k, 6 ≤ k → spec_l02Index.f k ((List.range' 0 M).map fun j => rd la (vv j)) s = some vF
  fi : ∀ k, 6 ≤ k → impl_numberOf.f k ((List.range' 0 M).map fun j => rd la (vv j)) s = some vF
  f0 : 0 ≤ vF
  f1 : vF < (lb.length : Int)
theorem told_f (s : Int) (hs : s = 2 ∨ s = 3) (la lb t : List Int) (W M : Nat) (ht : ∀ y ∈ t, 0 ≤ y ∧ y ≤ s - 1) (ha : ∀ y ∈ la, 0 ≤ y ∧ y ≤ s - 1) (hlen : M + W = t.length + 1) (hsm : t.length ≤ 5) (hW : 1 ≤ W)
    (hla : pwI s W = (la.length : Int)) (hlb : pwI s M = (lb.length : Int)) (h1 : (la.length : Int) ≤ 1000000) (h2 : (lb.length : Int) ≤ 1000000) :
    Told s la lb t W M (fun j => nv s ((t.take (j + W)).drop j)) (nv s ((List.range' 0 M).map fun j => rd la (nv s ((t.take (j + W)).drop j)))) := by
  have hwl : ∀ j, j < M → ((t.take (j + W)).drop j).length = W := fun j hj => by
    rw [List.length_drop, List.length_take]; omega
  have hw : ∀ j, j < M → 0 ≤ nv s ((t.take (j + W)).drop j) ∧ nv s ((t.take (j + W)).drop j) < (la.length : Int) ∧ ∀ k, 6 ≤ k → spec_l02Index.f k ((t.take (j + W)).drop j) s = some (nv s ((t.take (j + W)).drop j)) ∧ impl_numberOf.f k ((t.take (j + W)).drop j) s = some (nv s ((t.take (j + W)).drop j)) := fun j hj =>
    nv_f s hs _ (fun y hy => ht y (List.mem_of_mem_take (List.mem_of_mem_drop hy))) (by rw [hwl j hj]; omega) _ (by rw [hwl j hj]; exact hla) h1
  have hm : 0 ≤ nv s ((List.range' 0 M).map fun j => rd la (nv s ((t.take (j + W)).drop j))) ∧ nv s ((List.range' 0 M).map fun j => rd la (nv s ((t.take (j + W)).drop j))) < (lb.length : Int) ∧ ∀ k, 6 ≤ k → spec_l02Index.f k ((List.range' 0 M).map fun j => rd la (nv s ((t.take (j + W)).drop j))) s = some (nv s ((List.range' 0 M).map fun j => rd la (nv s ((t.take (j + W)).drop j)))) ∧ impl_numberOf.f k ((List.range' 0 M).map fun j => rd la (nv s ((t.take (j + W)).drop j))) s = some (nv s ((List.range' 0 M).map fun j => rd la (nv s ((t.take (j + W)).drop j)))) := by
    refine nv_f s hs _ ?_ (by simp; omega) _ (by simpa using hlb) h2
    intro y hy
    obtain ⟨j, hj, rfl⟩ := List.mem_map.mp hy
    have hj2 : j < M := by
      have := List.mem_range'_1.mp hj
      omega
    obtain ⟨g0, g1, -⟩ := hw j hj2
    have e : nv s ((t.take (j + W)).drop j) = ((nv s ((t.take (j + W)).drop j)).toNat : Int) := by omega
    rw [e]
    exact ha _ (rd_mem la _ (by omega))
  exact ⟨hlen, hsm, fun j hj => ⟨fun k hk => ((hw j hj).2.2 k hk).1, (hw j hj).1, (hw j hj).2.1⟩, fun j hj => ⟨fun k hk => ((hw j hj).2.2 k hk).2, (hw j hj).1, (hw j hj).2.1⟩, fun k hk => (hm.2.2 k hk).1, fun k hk => (hm.2.2 k hk).2, hm.1, hm.2.1⟩
theorem join_tell (s c c' : Int) (la lb t : List Int) (W M : Nat) (vv : Nat → Int) (vF : Int) (F : Told s la lb t W M vv vF) (hc : wrap64 (wrap64 (2 * c) + 1) = (W : Int)) (hW : 1 ≤ W) (k : Nat) (hk : 12 ≤ k) : impl_JoinRules_1.f k t s c' lb s c la = some (rd lb vF) := by
  have g := shorter_loop s c la t W M hc hW F.len (by have := F.small; omega) vv F.vi M 0 [] k (Nat.zero_add _) rfl (by have := F.small; have := F.len; omega)
  rw [List.nil_append, show ((0 : Nat) : Int) = 0 from rfl] at g
  unfold impl_JoinRules_1.f impl_Rule_shorter.f
  rw [g]
  simp only [Option.bind_some]
  unfold impl_Rule_tells.f
  rw [F.fi k (by omega)]
  simp only [Option.bind_some]
  rw [if_pos F.f0, if_pos F.f1]
  rfl
theorem spec_outer (s c s' c' : Int) (la lb : List Int) (W M L N : Nat) (hc : wrap64 (2 * c) + 1 = (W : Int)) (hc' : wrap64 (wrap64 (2 * c') + 1) = (M : Int)) (hW : 1 ≤ W) (hN : N ≤ 243) (hM : M ≤ 5) (T : Nat → List Int) (vv : Nat → Nat → Int) (vF : Nat → Int) (F : ∀ x, x < N → Told s la lb (T x) W M (vv x) (vF x))
    (pw : ∀ k, 12 ≤ k → spec_l02Powers.f k s (L : Int) = some (N : Int)) (dg : ∀ x, x < N → ∀ k, 12 ≤ k → spec_l02Digits.f k (x : Int) s (L : Int) = some (T x)) (z1 z2 : Int) (d : Nat) : ∀ (x : Nat) (acc : List Int) (k : Nat), x + d = N → acc.length = x → d * (M + 2) + 14 ≤ k →
    spec_JoinRules.l0 k (L : Int) (x : Int) s c la s' c' lb z1 z2 acc = some (z1, z2, acc ++ (List.range' x d).map (fun x => rd lb (vF x)), true) := by
  induction d with
  | zero =>
    intro x acc k hx ha hk
    obtain ⟨k, rfl⟩ : ∃ m, k = m + 1 := ⟨k - 1, by omega⟩
    have q1 : ¬ (x : Int) < (N : Int) := by omega
    have g := pw k (by omega)
    simp only [spec_JoinRules.l0]
    rw [g]
    simp only [Option.bind_some]
    rw [if_neg q1]
    simp
  | succ d ih =>
    intro x acc k hx ha hk
    have hk' : d * (M + 2) + (M + 2) + 14 ≤ k := by rw [Nat.succ_mul] at hk; exact hk
    obtain ⟨m, rfl⟩ : ∃ m, k = (m + M + 1) + 1 := ⟨k - (M + 2), by omega⟩
    have q0 : x < N := by omega
    have q1 : (x : Int) < (N : Int) := by omega
    have q2 : acc.length < 17592186044416 := by omega
    have q3 : wrap64 ((x : Int) + 1) = ((x + 1 : Nat) : Int) := by unfold wrap64; omega
    have g := pw (m + M + 1) (by omega)
    have g2 := dg x q0 (m + M + 1) (by omega)
    have G := F x q0
    have g3 := spec_inner s c s' c' la lb (T x) W M hc hc' hW G.len (by have := G.small; omega) (vv x) _ (vF x) G.vs G.fs G.f0 G.f1 (L : Int) (x : Int) z1 z2 acc q2 m (by omega) M 0 [] (Nat.zero_add _) rfl (List.nil_append _)
    have g4 := ih (x + 1) (acc ++ [rd lb (vF x)]) m (by omega) (by simp; omega) (by omega)
    rw [show ((0 : Nat) : Int) = 0 from rfl] at g3
    simp only [spec_JoinRules.l0]
    rw [g]
    simp only [Option.bind_some]
    rw [if_pos q1, g2]
    simp only [Option.bind_some]
    rw [g3, q3, g4, List.range'_succ, List.map_cons, List.append_assoc]
    rfl
open Go.Proofs.Ytcigmgocllnhfaa.Va in
theorem rowB_mem (s : Int) (l : List Int) (h : rowB s l = true) : ∀ y ∈ l, 0 ≤ y ∧ y ≤ s - 1 := by
  intro y hy
  unfold rowB at h
  exact of_decide_eq_true (List.all_eq_true.mp h y hy)
theorem pwI_facts (S C : Nat) (hS : S = 2 ∨ S = 3) (hC : C = 0 ∨ C = 1 ∨ C = 2) : pwI (S : Int) (2 * C + 1) = (S : Int) ^ (2 * C + 1) ∧ pwI (S : Int) (2 * C + 1) ≤ 1000000 := by
  rcases hS with rfl | rfl <;> rcases hC with rfl | rfl | rfl <;> exact ⟨by decide +kernel, by decide +kernel⟩
theorem wA (A : Nat) (h : A ≤ 2) : wrap64 (2 * (A : Int)) + 1 = ((2 * A + 1 : Nat) : Int) := by unfold wrap64; omega
theorem wB (A : Nat) (h : A ≤ 2) : wrap64 (wrap64 (2 * (A : Int)) + 1) = ((2 * A + 1 : Nat) : Int) := by unfold wrap64; omega
theorem join_both (S A B : Nat) (la lb : List Int) (hS : S = 2 ∨ S = 3) (hAB : A + B = 0 ∨ A + B = 1 ∨ A + B = 2) (hA : A = 0 ∨ A = 1 ∨ A = 2) (hB : B = 0 ∨ B = 1 ∨ B = 2) (ha : ∀ y ∈ la, 0 ≤ y ∧ y ≤ (S : Int) - 1)
    (hla : (la.length : Int) = (S : Int) ^ (2 * A + 1)) (hlb : (lb.length : Int) = (S : Int) ^ (2 * B + 1)) (k : Nat) (hk : 2000 < k) :
    ∃ y, spec_JoinRules.l0 k ((2 * (A + B) + 1 : Nat) : Int) 0 S A la S B lb S ((A + B : Nat) : Int) [] = some ((S : Int), ((A + B : Nat) : Int), y, true) ∧
      impl_made.f (fun k_ l_ => impl_JoinRules_1.f k_ l_ S B lb S A la) k S ((A + B : Nat) : Int) = some ((S : Int), ((A + B : Nat) : Int), y) ∧ y.length ≤ 243 := by
  have P := powFacts S (A + B) hS hAB
  have hN := P.hp
  have hL5 := P.hl
  have fpw := P.pw
  have fra := P.ra
  clear P
  obtain ⟨pa, pa2⟩ := pwI_facts S A hS hA
  obtain ⟨pb, pb2⟩ := pwI_facts S B hS hB
  have hW := wA A (by clear hN fpw fra pa pa2 pb pb2 hla hlb hL5; omega)
  have hW2 := wB A (by clear hN fpw fra pa pa2 pb pb2 hla hlb hL5; omega)
  have hM := wB B (by clear hN fpw fra pa pa2 pb pb2 hla hlb hL5; omega)
  have hLL := wB (A + B) (by clear hN fpw fra pa pa2 pb pb2 hla hlb hL5; omega)
  have hla' : pwI (S : Int) (2 * A + 1) = (la.length : Int) := by rw [pa, hla]
  have hlb' : pwI (S : Int) (2 * B + 1) = (lb.length : Int) := by rw [pb, hlb]
  rw [hla'] at pa2
  rw [hlb'] at pb2
  have hsum : 2 * B + 1 + (2 * A + 1) = 2 * (A + B) + 1 + 1 := by omega
  have hW1 : 1 ≤ 2 * A + 1 := by omega
  have hM5 : 2 * B + 1 ≤ 5 := by omega
  clear pa pb hla hlb
  generalize S ^ (2 * (A + B) + 1) = N at hN fpw fra
  generalize 2 * (A + B) + 1 = L at hL5 fpw fra hLL hsum ⊢
  generalize 2 * A + 1 = W at hW hW2 hla' hsum hW1
  generalize 2 * B + 1 = M at hM hlb' hsum hM5
  have F : ∀ x, x < N → Told (S : Int) la lb (digs S L x) W M _ _ := fun x hx => told_f (S : Int) (by omega) la lb (digs S L x) W M (digs_lt S (by omega) L x) ha (by rw [digs_len]; omega) (by rw [digs_len]; exact hL5) hW1 hla' hlb' pa2 pb2
  have hdig : ∀ x, x < N → ∀ k, 12 ≤ k → spec_l02Digits.f k (x : Int) (S : Int) (L : Int) = some (digs S L x) := fun x hx k hk => spec_digits_f S hS L x k (by omega) (by omega) (by omega)
  have hdig2 : ∀ x, x < N → ∀ k, 12 ≤ k → impl_digitsOf.f k (x : Int) (S : Int) (L : Int) = some (digs S L x) := fun x hx k hk => impl_digits_f S hS L x k (by omega) (by omega) (by omega)
  have hLN : 243 * (M + 2) ≤ 1701 := by omega
  have hNL : N * (M + 2) ≤ 243 * (M + 2) := Nat.mul_le_mul_right _ hN
  have g1 := spec_outer (S : Int) (A : Int) (S : Int) (B : Int) la lb W M L N hW hM hW1 hN hM5 (digs S L) _ _ F (fun k hk => at_rounds (fun k => spec_l02Powers.mono _ _ k) hk fpw) hdig (S : Int) ((A + B : Nat) : Int) N 0 [] k (Nat.zero_add _) rfl (by omega)
  have g2 := made_gen (fun k_ l_ => impl_JoinRules_1.f k_ l_ S B lb S A la) (S : Int) ((A + B : Nat) : Int) (L : Int) N hN hLL _
    (fun x hx => ⟨digs S L x, hdig2 x hx, fun k hk => join_tell (S : Int) (A : Int) (B : Int) la lb (digs S L x) W M _ _ (F x hx) hW2 hW1 k hk⟩) N k 0 [] (Nat.zero_add _) rfl (by omega)
  have gra := at_rounds (fun k => impl_raised.mono _ _ k) (show 12 ≤ k by omega) fra
  rw [show ((0 : Nat) : Int) = 0 from rfl] at g1 g2
  refine ⟨_, g1, ?_, by simp; exact hN⟩
  unfold impl_made.f impl_Rule_cells.f
  simp only [Option.bind_some]
  rw [hLL, gra]
  simp only [Option.bind_some]
  exact g2

open Go.Proofs.Ytcigmgocllnhfaa.Va in
theorem join_same (s c : Int) (l : List Int) (hs : I64 s) (hc : I64 c) (hn : l.length ≤ 140737488351232) (t d : Int) (m : List Int) (ht : I64 t) (hd : I64 d) (hm : m.length ≤ 140737488351232) (k : Nat) (hk : l.length + m.length + 2100 < k) :
    ∃ (s' r' : Int) (y : List Int) (b : Bool), spec_JoinRules.f k s c l t d m = some (s', r', y, b) ∧ impl_JoinRules.f k s c l t d m = some (s', r', y, b) ∧ y.length ≤ 243 := by
  obtain ⟨k, rfl⟩ : ∃ m, k = m + 1 := ⟨k - 1, by omega⟩
  unfold spec_JoinRules.f impl_JoinRules.f
  rw [is_f s c l hs hc hn, valid_f s c l hn _ (by omega)]
  simp only [Option.bind_some]
  cases hv : validB s c l with
  | false =>
    simp only [Bool.false_eq_true, if_false, spec_JoinRules.j0, if_true]
    exact ⟨_, _, _, _, rfl, rfl, by simp⟩
  | true =>
    simp only [if_true]
    rw [is_f t d m ht hd hm, valid_f t d m hm _ (by omega)]
    simp only [Option.bind_some]
    cases hv' : validB t d m with
    | false =>
      simp only [Bool.false_eq_true, if_false, spec_JoinRules.j0, if_true]
      exact ⟨_, _, _, _, rfl, rfl, by simp⟩
    | true =>
      simp only [if_true]
      by_cases hst : s = t
      · rw [if_pos hst, if_pos hst]
        subst hst
        unfold validB at hv hv'
        simp only [Bool.and_eq_true, decide_eq_true_eq] at hv hv'
        obtain ⟨hs2, hc2, hl, hr⟩ := hv
        obtain ⟨-, hd2, hml, -⟩ := hv'
        have e1 : wrap64 (c + d) = c + d := by unfold wrap64; omega
        rw [e1]
        by_cases hcd : c + d > 2
        · rw [if_pos hcd, decide_eq_true hcd]
          simp only [spec_JoinRules.j0, if_true]
          exact ⟨_, _, _, _, rfl, rfl, by simp⟩
        · obtain ⟨S, rfl⟩ : ∃ S : Nat, s = S := ⟨s.toNat, by omega⟩
          obtain ⟨A, rfl⟩ : ∃ A : Nat, c = A := ⟨c.toNat, by omega⟩
          obtain ⟨B, rfl⟩ : ∃ B : Nat, d = B := ⟨d.toNat, by omega⟩
          rw [show (2 * (A : Int) + 1).toNat = 2 * A + 1 by omega] at hl
          rw [show (2 * (B : Int) + 1).toNat = 2 * B + 1 by omega] at hml
          have e2 : (A : Int) + (B : Int) = ((A + B : Nat) : Int) := by omega
          have e3 := wB (A + B) (by clear hl hml hr hm hn hk; omega)
          obtain ⟨y, -, z2, -⟩ := join_both S A B l m (by omega) (by omega) (by omega) (by omega) (rowB_mem _ _ hr) hl hml (k + 1) (by omega)
          obtain ⟨y', z1, z2', z3⟩ := join_both S A B l m (by omega) (by omega) (by omega) (by omega) (rowB_mem _ _ hr) hl hml k (by omega)
          have z2'' := at_rounds (fun k => impl_made.mono (fun l_ k_ => impl_JoinRules_1.mono l_ _ _ _ _ _ _ k_) _ _ k) (show k ≤ k + 1 by omega) z2'
          rw [if_neg hcd, decide_eq_false hcd, e2, z2'']
          simp only [spec_JoinRules.j0, Bool.false_eq_true, if_false]
          rw [e1, e2, e3, z1]
          exact ⟨_, _, _, _, rfl, rfl, z3⟩
      · rw [if_neg hst, if_neg hst]
        simp only [spec_JoinRules.j0, if_true]
        exact ⟨_, _, _, _, rfl, rfl, by simp⟩

theorem FnExactJoinRules (s c : Int) (l : List Int) (hs : I64 s) (hc : I64 c) (hn : l.length ≤ 9223372036854775807) (t d : Int) (m : List Int) (ht : I64 t) (hd : I64 d) (hm : m.length ≤ 9223372036854775807) : ∃ k, laws_FnExactJoinRules.f k s c l t d m = some true := by
  obtain ⟨K, hK⟩ : ∃ K, K = l.length + m.length + 2200 := ⟨_, rfl⟩
  refine ⟨K + 3, ?_⟩
  unfold laws_FnExactJoinRules.f
  rw [sz_f s c l hn 1048576 (by omega)]
  simp only [Option.bind_some]
  by_cases h : (l.length : Int) ≤ 1048576
  · rw [if_pos h, if_neg (by omega), sz_f t d m hm (1048576 - l.length) (by omega)]
    simp only [Option.bind_some]
    by_cases h' : (m.length : Int) ≤ 1048576 - l.length
    · obtain ⟨s', r', y, b, h1, h2, hy⟩ := join_same s c l hs hc (by omega) t d m ht hd (by omega) (K + 3) (by omega)
      obtain ⟨s2, r2, y2, b2, g1, g2, -⟩ := join_same s c l hs hc (by omega) t d m ht hd (by omega) (K + 1) (by omega)
      have e := at_rounds (fun k => spec_JoinRules.mono s c l t d m k) (show K + 1 ≤ K + 3 by omega) g1
      rw [h1] at e
      obtain ⟨rfl, rfl, rfl, rfl⟩ : s' = s2 ∧ r' = r2 ∧ y = y2 ∧ b = b2 := by simpa using e
      have hbb : (b != b) = false := by cases b <;> rfl
      obtain ⟨n0, m0, hm1, hm2⟩ := markRule_any s c l 1 (by omega) (by omega) (by omega) (K + 2) (by omega)
      have hn0 : n0 ≤ 2000000 := by
        obtain ⟨q, hq1, -, -⟩ := markRule_f s c l (by omega) (K + 2) (by omega)
        rw [hm1] at hq1
        obtain ⟨rfl, -⟩ : n0 = 1 + (l.length : Int) ∧ m0 = q := by simpa using hq1
        omega
      obtain ⟨n1, m1, hm3, hm4⟩ := markRule_any t d m n0 (by omega) hm2 hn0 (K + 2) (by omega)
      obtain ⟨mm, gm1, gm2, gm3⟩ := markRule_f s' r' y (by omega) (K + 1) (by omega)
      have hh := heldRule_f s' r' mm (by omega) gm3 (K + 1) (by omega)
      have hh' := heldRule_f s' r' mm (by omega) gm3 K (by omega)
      rw [gm2] at hh hh'
      rw [if_pos h', if_neg (by omega), toRule_f s c l (by omega) _ (by omega), toRule_f t d m (by omega) _ (by omega)]
      simp only [Option.bind_some, h1, h2, eqRule_f s' r' y (by omega) (K + 3) (by omega), if_true, laws_FnExactJoinRules.j0, hbb, Bool.false_eq_true, if_false, toRule_f s c l (by omega) (K + 2) (by omega), eqRule_f s c l (by omega) (K + 2) (by omega), toRule_f t d m (by omega) (K + 2) (by omega), eqRule_f t d m (by omega) (K + 2) (by omega), hm1, hm3]
      rw [if_neg (by omega)]
      simp only [Option.bind_some, eqRule_f s' r' y (by omega) (K + 2) (by omega), if_true, laws_FnExactJoinRules.j1, hbb, Bool.false_eq_true, if_false, gm1, hh]
      rw [if_neg (by omega)]
      simp only [toRule_f s c l (by omega) (K + 1) (by omega), toRule_f t d m (by omega) (K + 1) (by omega), Option.bind_some, g2, eqRule_f s' r' y (by omega) (K + 1) (by omega), if_true, laws_FnExactJoinRules.j2, hbb, Bool.false_eq_true, if_false, hh']
      rw [if_neg (by omega)]
    · rw [if_neg h', if_pos (by omega)]
  · rw [if_neg h, if_pos (by omega)]

end Go.Proofs.Ytcigmgocllnhfaa.Pure
