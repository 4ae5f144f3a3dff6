/- The plain law of FnExactMirrorRule, over the functions beside: program and reference answer alike. No condition beyond the stated bounds. -/
import Derived.Test.YtcigmgocllnhfaaQFnExactMirrorRulex6
namespace Go.Proofs.Ytcigmgocllnhfaa.Pure
open Go.RowKit Go.Proofs.Ytcigmgocllnhfaa.QFnExactMirrorRule Go.Proofs.YtcigmgocllnhfaaW.PrintWords Go.Proofs.YtcigmgocllnhfaaW.PrintLast
set_option linter.unusedSimpArgs false
set_option linter.unusedVariables false

namespace FnExactMirrorRuleParts
theorem eq_loop (x0 : List Int) (hn : x0.length ≤ 140737488351232) (d : Nat) : ∀ (k : Nat) (i : Int), 0 ≤ i → (x0.length : Int) - i = d → d < k → laws_eqInt64S.l0 k x0 x0 i = some true := by
  induction d with
  | zero =>
    intro k i h0 hd hk
    obtain ⟨k, rfl⟩ : ∃ m, k = m + 1 := ⟨k - 1, by omega⟩
    simp only [laws_eqInt64S.l0]
    rw [if_neg (by omega)]
  | succ d ih =>
    intro k i h0 hd hk
    obtain ⟨k, rfl⟩ : ∃ m, k = m + 1 := ⟨k - 1, by omega⟩
    simp only [laws_eqInt64S.l0]
    rw [if_pos (by omega), if_pos h0, if_pos (by omega), if_pos trivial, show wrap64 (i + 1) = i + 1 by unfold wrap64; omega]
    exact ih k (i + 1) (by omega) (by omega) (by omega)

theorem eq_f (x0 : List Int) (hn : x0.length ≤ 140737488351232) (k : Nat) (hk : x0.length < k) : laws_eqInt64S.f k x0 x0 = some true := by
  unfold laws_eqInt64S.f
  rw [if_pos rfl]
  exact eq_loop x0 hn x0.length k 0 (by omega) (by omega) hk

theorem rd_get (x : List Int) (i : Int) (h0 : 0 ≤ i) (h : i < (x.length : Int)) : x[i.toNat]? = some (rd x i) := by
  unfold rd
  rw [List.getD_eq_getElem?_getD, List.getElem?_eq_getElem (by omega)]
  rfl

theorem wrap_up {i : Int} {n : Nat} (h0 : 0 ≤ i) (h : i < (n : Int)) (hn : n ≤ 140737488351232) : wrap64 (i + 1) = i + 1 := by
  unfold wrap64; omega

theorem copy_loop (x0 : List Int) (hn : x0.length ≤ 140737488351232) (d : Nat) : ∀ (k : Nat) (x3 : List Int) (i : Int), 0 ≤ i → (x0.length : Int) - i = d → x3.length = x0.length →
    (∀ j : Nat, (j : Int) < i → x3[j]? = x0[j]?) → d < k → laws_toInt64S.l0 k x0 x3 i = some x0 := by
  induction d with
  | zero =>
    intro k x3 i h0 hd hl hj hk
    obtain ⟨k, rfl⟩ : ∃ m, k = m + 1 := ⟨k - 1, by omega⟩
    simp only [laws_toInt64S.l0]
    rw [if_neg (by omega)]
    congr 1
    apply List.ext_getElem?
    intro j
    by_cases h : (j : Int) < i
    · exact hj j h
    · rw [List.getElem?_eq_none (by omega), List.getElem?_eq_none (by omega)]
  | succ d ih =>
    intro k x3 i h0 hd hl hj hk
    obtain ⟨k, rfl⟩ : ∃ m, k = m + 1 := ⟨k - 1, by omega⟩
    simp only [laws_toInt64S.l0]
    rw [if_pos (by omega), if_pos h0, if_pos (by omega), wrap_up (n := x0.length) h0 (by omega) hn]
    refine ih k _ (i + 1) (by omega) (by omega) (by simpa using hl) ?_ (by omega)
    intro j hlt
    rw [List.getElem?_set]
    by_cases h : i.toNat = j
    · subst h
      rw [if_pos rfl, if_pos (by omega), rd_get x0 i h0 (by omega)]
    · rw [if_neg h]
      exact hj j (by omega)

theorem copy_f (x0 : List Int) (hn : x0.length * 8 ≤ 140737488351232) (k : Nat) (hk : x0.length < k) : laws_toInt64S.f k x0 = some x0 := by
  unfold laws_toInt64S.f
  rw [if_pos (by omega), if_pos (by omega)]
  exact copy_loop x0 (by omega) x0.length k _ 0 (by omega) (by omega) (by simp) (by intro j h; omega) hk

theorem in_f (a b c : Int) : spec_l00In.f a b c = some (decide (b ≤ a ∧ a ≤ c)) := by
  unfold spec_l00In.f
  by_cases h : a ≥ b
  · rw [if_pos h]; simp; omega
  · rw [if_neg h]; simp; omega

theorem within_f (a b c : Int) : impl_within.f a b c = some (decide (b ≤ a ∧ a ≤ c)) := by
  unfold impl_within.f
  by_cases h : a ≥ b
  · rw [if_pos h]; simp; omega
  · rw [if_neg h]; simp; omega


/-- What marking leaves: a, a + 1, .. -/
def Marked (a : Int) (x : List Int) : Prop := ∀ j : Nat, j < x.length → x[j]? = some (a + j)

theorem mark_loop (n : Nat) (hn : n ≤ 140737488351232) (d : Nat) : ∀ (k : Nat) (x : List Int) (i a : Int), 0 ≤ i → x.length = n → (n : Int) - i = d → a = 1 + i →
    (∀ j : Nat, (j : Int) < i → x[j]? = some (1 + (j : Int))) → d < k → ∃ y, laws_markInt64S.l0 k x a i = some (1 + (n : Int), y) ∧ y.length = n ∧ Marked 1 y := by
  induction d with
  | zero =>
    intro k x i a h0 hl hd ha hj hk
    obtain ⟨k, rfl⟩ : ∃ m, k = m + 1 := ⟨k - 1, by omega⟩
    simp only [laws_markInt64S.l0]
    rw [if_neg (by omega)]
    exact ⟨x, by rw [show a = 1 + (n : Int) by omega], hl, fun j h => hj j (by omega)⟩
  | succ d ih =>
    intro k x i a h0 hl hd ha hj hk
    obtain ⟨k, rfl⟩ : ∃ m, k = m + 1 := ⟨k - 1, by omega⟩
    simp only [laws_markInt64S.l0]
    rw [if_pos (by omega), if_pos h0, show wrap64 (i + 1) = i + 1 by unfold wrap64; omega, show wrap64 (a + 1) = a + 1 by unfold wrap64; omega]
    refine ih k _ (i + 1) (a + 1) (by omega) (by simpa using hl) (by omega) (by omega) ?_ (by omega)
    intro j hlt
    rw [List.getElem?_set]
    by_cases h : i.toNat = j
    · subst h
      rw [if_pos rfl, if_pos (by omega)]
      congr 1; omega
    · rw [if_neg h]
      exact hj j (by omega)

theorem mark_f (x : List Int) (hn : x.length ≤ 140737488351232) (k : Nat) (hk : x.length < k) : ∃ y, laws_markInt64S.f k x 1 = some (1 + (x.length : Int), y) ∧ y.length = x.length ∧ Marked 1 y := by
  unfold laws_markInt64S.f
  exact mark_loop x.length hn x.length k x 0 1 (by omega) rfl (by omega) (by omega) (by intro j h; omega) hk

theorem held_loop (x : List Int) (hn : x.length ≤ 140737488351232) (hm : Marked 1 x) (d : Nat) : ∀ (k : Nat) (i a : Int), 0 ≤ i → (x.length : Int) - i = d → a = 1 + i → d < k →
    laws_heldInt64S.l0 k x a i = some (1 + (x.length : Int)) := by
  induction d with
  | zero =>
    intro k i a h0 hd ha hk
    obtain ⟨k, rfl⟩ : ∃ m, k = m + 1 := ⟨k - 1, by omega⟩
    simp only [laws_heldInt64S.l0]
    rw [if_neg (by omega)]
    congr 1; omega
  | succ d ih =>
    intro k i a h0 hd ha hk
    obtain ⟨k, rfl⟩ : ∃ m, k = m + 1 := ⟨k - 1, by omega⟩
    simp only [laws_heldInt64S.l0]
    have hr : rd x i = a := by
      have h1 := hm i.toNat (by omega)
      unfold rd
      rw [List.getD_eq_getElem?_getD, h1]
      simp; omega
    rw [if_pos (by omega), if_pos h0, if_pos hr, show wrap64 (i + 1) = i + 1 by unfold wrap64; omega, show wrap64 (a + 1) = a + 1 by unfold wrap64; omega]
    exact ih k (i + 1) (a + 1) (by omega) (by omega) (by omega) (by omega)

theorem held_f (x : List Int) (hn : x.length ≤ 140737488351232) (hm : Marked 1 x) (k : Nat) (hk : x.length < k) : laws_heldInt64S.f k x 1 = some (1 + (x.length : Int)) := by
  unfold laws_heldInt64S.f
  exact held_loop x hn hm x.length k 0 1 (by omega) (by omega) (by omega) hk

theorem markRule_f (s r : Int) (x : List Int) (hn : x.length ≤ 140737488351232) (k : Nat) (hk : x.length < k) : ∃ y, laws_markRule.f k s r x 1 = some (1 + (x.length : Int), y) ∧ y.length = x.length ∧ Marked 1 y := by
  obtain ⟨y, h1, h2, h3⟩ := mark_f x hn k hk
  refine ⟨y, ?_, h2, h3⟩
  unfold laws_markRule.f
  rw [h1]
  rfl

theorem heldRule_f (s r : Int) (x : List Int) (hn : x.length ≤ 140737488351232) (hm : Marked 1 x) (k : Nat) (hk : x.length < k) : laws_heldRule.f k s r x 1 = some (1 + (x.length : Int)) := by
  unfold laws_heldRule.f
  rw [held_f x hn hm k hk]
  simp only [Option.bind_some]
  rw [if_neg (by omega)]

open Go.Proofs.Ytcigmgocllnhfaa.Va in
theorem areWithin_f (x : List Int) (hn : x.length ≤ 140737488351232) (t : Int) (d : Nat) : ∀ (k : Nat) (i : Nat), x.length - i = d → i ≤ x.length → d < k →
    impl_areWithin.l0 k 0 (t - 1) x x.length (i : Int) = some (rowB t (x.drop i)) := by
  induction d with
  | zero =>
    intro k i hd hi hk
    obtain ⟨k, rfl⟩ : ∃ m, k = m + 1 := ⟨k - 1, by omega⟩
    simp only [impl_areWithin.l0]
    rw [if_neg (by omega), show i = x.length by omega, List.drop_length]
    rfl
  | succ d ih =>
    intro k i hd hi hk
    obtain ⟨k, rfl⟩ : ∃ m, k = m + 1 := ⟨k - 1, by omega⟩
    simp only [impl_areWithin.l0, if_pos (show (i : Int) < (x.length : Int) by omega), if_pos (show 0 ≤ (i : Int) by omega), within_f, Option.bind_some, show wrap64 ((i : Int) + 1) = ((i + 1 : Nat) : Int) by unfold wrap64; omega]
    rw [rowB_drop t x i (by omega)]
    cases hb : decide (0 ≤ rd x (i : Int) ∧ rd x (i : Int) ≤ t - 1) with
    | true => simp only [if_true, Bool.true_and]; exact ih k (i + 1) (by omega) (by omega) (by omega)
    | false => simp only [Bool.false_eq_true, if_false, Bool.false_and]

theorem raised_f (k : Nat) (hk : 8 ≤ k) : impl_raised.f k 2 1 = some 2 ∧ impl_raised.f k 2 3 = some 8 ∧ impl_raised.f k 2 5 = some 32 ∧ impl_raised.f k 3 1 = some 3 ∧ impl_raised.f k 3 3 = some 27 ∧ impl_raised.f k 3 5 = some 243 := by
  obtain ⟨k, rfl⟩ : ∃ m, k = m + 8 := ⟨k - 8, by omega⟩
  refine ⟨?_, ?_, ?_, ?_, ?_, ?_⟩ <;> simp [impl_raised.f, impl_raised.l0, wrap64]

open Go.Proofs.Ytcigmgocllnhfaa.Va in
theorem validB_at (s c : Int) (l : List Int) (n : Int) (hs : s = 2 ∨ s = 3) (hc : 0 ≤ c ∧ c ≤ 2) (hn : s ^ (2 * c + 1).toNat = n) : validB s c l = (decide ((l.length : Int) = n) && rowB s l) := by
  unfold validB
  rw [decide_eq_true (show 2 ≤ s ∧ s ≤ 3 by omega), decide_eq_true hc, hn]; rfl

open Go.Proofs.Ytcigmgocllnhfaa.Va in
theorem many_f (s n : Int) (l : List Int) (hs : s = 2 ∨ s = 3) (hn : l.length ≤ 140737488351232) (k : Nat) (hk : l.length < k) : impl_areMany.f k l n n 0 (wrap64 (s - 1)) = some (decide ((l.length : Int) = n) && rowB s l) := by
  have e : wrap64 (s - 1) = s - 1 := by unfold wrap64; omega
  unfold impl_areMany.f impl_areWithin.f
  rw [within_f, e]
  simp only [Option.bind_some]
  have h := areWithin_f l hn s l.length k 0 (by omega) (by omega) hk
  rw [List.drop_zero] at h
  by_cases hl : (l.length : Int) = n
  · rw [decide_eq_true (show n ≤ (l.length : Int) ∧ (l.length : Int) ≤ n by omega), decide_eq_true hl]
    simp only [if_true, Bool.true_and]
    rw [show ((0 : Nat) : Int) = 0 from rfl] at h
    rw [h]; rfl
  · rw [decide_eq_false (show ¬ (n ≤ (l.length : Int) ∧ (l.length : Int) ≤ n) by omega), decide_eq_false hl]
    simp only [Bool.false_eq_true, if_false, Bool.false_and]

open Go.Proofs.Ytcigmgocllnhfaa.Va in
theorem valid_f (s c : Int) (l : List Int) (hn : l.length ≤ 140737488351232) (k : Nat) (hk : l.length + 10 < k) : impl_ValidRule.f k s c l = some (validB s c l) := by
  obtain ⟨k, rfl⟩ : ∃ m, k = m + 1 := ⟨k - 1, by omega⟩
  unfold impl_ValidRule.f impl_areStates.f impl_isReach.f
  rw [within_f]
  by_cases hs : s = 2 ∨ s = 3
  · have e2 : (if s = 2 then some true else some (s == 3)) = some true := by rcases hs with rfl | rfl <;> rfl
    rw [e2]
    simp only [Option.bind_some, if_true]
    by_cases hc : 0 ≤ c ∧ c ≤ 2
    · rw [decide_eq_true hc]
      simp only [Bool.not_true, impl_ValidRule.j0, Bool.false_eq_true, if_false, impl_Rule_cells.f, Option.bind_some]
      have hr := raised_f k (by omega)
      have hc3 : c = 0 ∨ c = 1 ∨ c = 2 := by omega
      have w0 : wrap64 (wrap64 (2 * 0) + 1) = 1 := by unfold wrap64; omega
      have w1 : wrap64 (wrap64 (2 * 1) + 1) = 3 := by unfold wrap64; omega
      have w2 : wrap64 (wrap64 (2 * 2) + 1) = 5 := by unfold wrap64; omega
      have key : ∀ n : Int, s ^ (2 * c + 1).toNat = n → impl_raised.f k s (wrap64 (wrap64 (2 * c) + 1)) = some n →
          ((impl_raised.f k s (wrap64 (wrap64 (2 * c) + 1))).bind fun t137 => (impl_areMany.f k l t137 t137 0 (wrap64 (s - 1))).bind fun t138 => some t138) = some (validB s c l) := by
        intro n h1 h2
        rw [h2]
        simp only [Option.bind_some]
        rw [many_f s n l hs hn k (by omega), validB_at s c l n hs hc h1]
        rfl
      rcases hs with rfl | rfl <;> rcases hc3 with rfl | rfl | rfl
      · exact key 2 (by decide) (by rw [w0]; exact hr.1)
      · exact key 8 (by decide) (by rw [w1]; exact hr.2.1)
      · exact key 32 (by decide) (by rw [w2]; exact hr.2.2.1)
      · exact key 3 (by decide) (by rw [w0]; exact hr.2.2.2.1)
      · exact key 27 (by decide) (by rw [w1]; exact hr.2.2.2.2.1)
      · exact key 243 (by decide) (by rw [w2]; exact hr.2.2.2.2.2)
    · rw [decide_eq_false hc]
      simp only [Bool.not_false, impl_ValidRule.j0, if_true]
      unfold validB
      rw [decide_eq_false hc]; simp
  · have h2 : ¬ s = 2 := by omega
    have h3 : (s == 3) = false := by simp; omega
    rw [if_neg h2, h3]
    simp only [Option.bind_some, Bool.false_eq_true, if_false, impl_ValidRule.j0, if_true]
    unfold validB
    rw [decide_eq_false (show ¬ (2 ≤ s ∧ s ≤ 3) by omega)]; rfl

/-- Both bounds of a whole number of 64 bits. -/
def I64 (x : Int) : Prop := -9223372036854775808 ≤ x ∧ x ≤ 9223372036854775807

open Go.Proofs.Ytcigmgocllnhfaa.Va in
theorem is_f (s c : Int) (l : List Int) (hs : I64 s) (hc : I64 c) (hn : l.length ≤ 140737488351232) (k : Nat) : spec_l02Is.f k s c l = some (validB s c l) := by
  unfold spec_l02Is.f
  rw [if_pos ⟨hs, hc, hn⟩]

theorem sz_f (s c : Int) (l : List Int) (hn : l.length ≤ 9223372036854775807) (b : Int) (hb : 0 ≤ b ∧ b ≤ 1048576) : laws_szRule.f s c l b = some (if (l.length : Int) ≤ b then b - l.length else -1) := by
  unfold laws_szRule.f laws_szInt64S.f
  have e : wrap64 (b - (l.length : Int)) = b - l.length := by unfold wrap64; omega
  rw [e]
  by_cases h : (l.length : Int) ≤ b
  · rw [if_neg (by omega), if_pos h]; simp only [Option.bind_some]; rw [if_neg (by omega)]
  · rw [if_pos (by omega), if_neg h]; rfl

theorem toRule_f (s c : Int) (l : List Int) (hn : l.length ≤ 1048576) (k : Nat) (hk : l.length < k) : laws_toRule.f k s c l = some (s, c, l) := by
  unfold laws_toRule.f
  rw [copy_f l (by omega) k hk]; rfl

theorem eqRule_f (s r : Int) (x : List Int) (hn : x.length ≤ 140737488351232) (k : Nat) (hk : x.length < k) : laws_eqRule.f k s r x s r x = some true := by
  unfold laws_eqRule.f
  rw [if_pos rfl, if_pos rfl, eq_f x hn k hk]
  rfl

/-- The digits of a number, the greatest one first. -/
def digs (s : Nat) : Nat → Nat → List Int
  | 0, _ => []
  | n + 1, x => digs s n (x / s) ++ [((x % s : Nat) : Int)]
theorem digs_len (s : Nat) : ∀ n x, (digs s n x).length = n
  | 0, _ => rfl
  | n + 1, x => by simp [digs, digs_len s n]
theorem digs_lt (s : Nat) (hs : 0 < s) : ∀ n x, ∀ y ∈ digs s n x, 0 ≤ y ∧ y ≤ (s : Int) - 1
  | 0, _ => by simp [digs]
  | n + 1, x => by
    intro y hy
    rcases List.mem_append.mp hy with h | h
    · exact digs_lt s hs n _ y h
    · have h' : y = ((x % s : Nat) : Int) := by simpa using h
      subst h'
      have := Nat.mod_lt x hs
      omega
theorem spec_digits_loop (s : Nat) (hs : s = 2 ∨ s = 3) : ∀ (n k x : Nat) (l : List Int), x ≤ 1000000 → n ≤ l.length → n ≤ 1000 → n < k → spec_l02Digits.l0 k (x : Int) (s : Int) l ((n : Int) - 1) = some (digs s n x ++ l.drop n) := by
  intro n
  induction n with
  | zero =>
    intro k x l hx hl hn hk
    obtain ⟨k, rfl⟩ : ∃ m, k = m + 1 := ⟨k - 1, by omega⟩
    simp only [spec_l02Digits.l0]
    rw [if_neg (by omega)]
    rfl
  | succ n ih =>
    intro k x l hx hl hn hk
    obtain ⟨k, rfl⟩ : ∃ m, k = m + 1 := ⟨k - 1, by omega⟩
    have ed : Int.tdiv (x : Int) (s : Int) = ((x / s : Nat) : Int) := rfl
    have em : Int.tmod (x : Int) (s : Int) = ((x % s : Nat) : Int) := rfl
    have hd : x / s ≤ x := Nat.div_le_self _ _
    have he : digs s (n + 1) x = digs s n (x / s) ++ [((x % s : Nat) : Int)] := rfl
    rw [he]
    clear he
    revert ed em hd
    generalize x / s = q
    generalize x % s = z
    intro ed em hd
    simp only [spec_l02Digits.l0]
    rw [if_pos (by omega), if_neg (by omega), if_pos (by omega), if_pos (by omega), ed, em, show wrap64 (q : Int) = (q : Int) by unfold wrap64; omega, show wrap64 (((n + 1 : Nat) : Int) - 1 - 1) = ((n : Nat) : Int) - 1 by unfold wrap64; omega, show (((n + 1 : Nat) : Int) - 1).toNat = n by omega]
    rw [ih k q (l.set n (z : Int)) (by omega) (by simp; omega) (by omega) (by omega)]
    congr 1
    rw [List.append_assoc]
    congr 1
    rw [List.drop_eq_getElem_cons (by simp; omega), List.drop_set_of_lt (by omega)]
    simp
theorem spec_digits_f (s : Nat) (hs : s = 2 ∨ s = 3) (n x k : Nat) (hx : x ≤ 1000000) (hn : n ≤ 1000) (hk : n < k) : spec_l02Digits.f k (x : Int) (s : Int) (n : Int) = some (digs s n x) := by
  unfold spec_l02Digits.f
  rw [if_pos (by omega), show ((n : Nat) : Int).toNat = n by omega, if_pos (by omega), show wrap64 ((n : Int) - 1) = (n : Int) - 1 by unfold wrap64; omega]
  rw [spec_digits_loop s hs n k x (List.replicate n 0) hx (by simp) hn hk]
  simp
theorem impl_digits_loop (s : Nat) (hs : s = 2 ∨ s = 3) : ∀ (n k x : Nat) (l : List Int), x ≤ 1000000 → n ≤ l.length → n ≤ 1000 → n < k → impl_digitsOf.l0 k (x : Int) (s : Int) l ((n : Int) - 1) = some (digs s n x ++ l.drop n) := by
  intro n
  induction n with
  | zero =>
    intro k x l hx hl hn hk
    obtain ⟨k, rfl⟩ : ∃ m, k = m + 1 := ⟨k - 1, by omega⟩
    simp only [impl_digitsOf.l0]
    rw [if_neg (by omega)]
    rfl
  | succ n ih =>
    intro k x l hx hl hn hk
    obtain ⟨k, rfl⟩ : ∃ m, k = m + 1 := ⟨k - 1, by omega⟩
    have ed : Int.tdiv (x : Int) (s : Int) = ((x / s : Nat) : Int) := rfl
    have em : Int.tmod (x : Int) (s : Int) = ((x % s : Nat) : Int) := rfl
    have hd : x / s ≤ x := Nat.div_le_self _ _
    have he : digs s (n + 1) x = digs s n (x / s) ++ [((x % s : Nat) : Int)] := rfl
    rw [he]
    clear he
    revert ed em hd
    generalize x / s = q
    generalize x % s = z
    intro ed em hd
    simp only [impl_digitsOf.l0]
    rw [if_pos (by omega), if_neg (by omega), if_pos (by omega), if_pos (by omega), ed, em, show wrap64 (q : Int) = (q : Int) by unfold wrap64; omega, show wrap64 (((n + 1 : Nat) : Int) - 1 - 1) = ((n : Nat) : Int) - 1 by unfold wrap64; omega, show (((n + 1 : Nat) : Int) - 1).toNat = n by omega]
    rw [ih k q (l.set n (z : Int)) (by omega) (by simp; omega) (by omega) (by omega)]
    congr 1
    rw [List.append_assoc]
    congr 1
    rw [List.drop_eq_getElem_cons (by simp; omega), List.drop_set_of_lt (by omega)]
    simp
theorem impl_digits_f (s : Nat) (hs : s = 2 ∨ s = 3) (n x k : Nat) (hx : x ≤ 1000000) (hn : n ≤ 1000) (hk : n < k) : impl_digitsOf.f k (x : Int) (s : Int) (n : Int) = some (digs s n x) := by
  unfold impl_digitsOf.f
  rw [if_pos (by omega), show ((n : Nat) : Int).toNat = n by omega, if_pos (by omega), show wrap64 ((n : Int) - 1) = (n : Int) - 1 by unfold wrap64; omega]
  rw [impl_digits_loop s hs n k x (List.replicate n 0) hx (by simp) hn hk]
  simp

structure PowFacts (s long : Nat) : Prop where
  hs : s = 2 ∨ s = 3
  hl : long ≤ 5
  hp : s ^ long ≤ 243
  pw : spec_l02Powers.f 12 (s : Int) (long : Int) = some ((s ^ long : Nat) : Int)
  ra : impl_raised.f 12 (s : Int) (long : Int) = some ((s ^ long : Nat) : Int)
theorem powFacts21 : PowFacts 2 1 := ⟨by decide, by decide, by decide, by decide +kernel, by decide +kernel⟩
theorem powFacts23 : PowFacts 2 3 := ⟨by decide, by decide, by decide, by decide +kernel, by decide +kernel⟩
theorem powFacts25 : PowFacts 2 5 := ⟨by decide, by decide, by decide, by decide +kernel, by decide +kernel⟩
theorem powFacts31 : PowFacts 3 1 := ⟨by decide, by decide, by decide, by decide +kernel, by decide +kernel⟩
theorem powFacts33 : PowFacts 3 3 := ⟨by decide, by decide, by decide, by decide +kernel, by decide +kernel⟩
theorem powFacts35 : PowFacts 3 5 := ⟨by decide, by decide, by decide, by decide +kernel, by decide +kernel⟩
theorem powFacts (s r : Nat) (hs : s = 2 ∨ s = 3) (hr : r = 0 ∨ r = 1 ∨ r = 2) : PowFacts s (2 * r + 1) := by
  rcases hs with rfl | rfl <;> rcases hr with rfl | rfl | rfl
  · exact powFacts21
  · exact powFacts23
  · exact powFacts25
  · exact powFacts31
  · exact powFacts33
  · exact powFacts35

/-- s to the power of n. -/
def pwI (s : Int) : Nat → Int
  | 0 => 1
  | n + 1 => pwI s n * s
theorem pwI_pos (s : Int) (hs : s = 2 ∨ s = 3) : ∀ n, 1 ≤ pwI s n
  | 0 => by simp [pwI]
  | n + 1 => by
    have := pwI_pos s hs n
    unfold pwI
    rcases hs with rfl | rfl <;> omega
theorem rd_mem (t : List Int) (i : Nat) (h : i < t.length) : rd t (i : Int) ∈ t := by
  have : rd t (i : Int) = t[i] := by
    unfold rd; rw [List.getD_eq_getElem?_getD]; simp [h]
  rw [this]; exact List.getElem_mem _
theorem num_loop (s : Int) (hs : s = 2 ∨ s = 3) (t : List Int) (ht : ∀ y ∈ t, 0 ≤ y ∧ y ≤ s - 1) (hl : t.length ≤ 1000) (d : Nat) : ∀ (i : Nat) (a B : Int), i + d = t.length → 0 ≤ a → a < B → B * pwI s d ≤ 1000000 →
    ∃ v, 0 ≤ v ∧ v < B * pwI s d ∧ ∀ k, d < k → spec_l02Index.l0 k t s a (i : Int) = some v ∧ impl_numberOf.l0 k s a t (t.length : Int) (i : Int) = some v := by
  induction d with
  | zero =>
    intro i a B hi h0 h1 hB
    refine ⟨a, h0, by unfold pwI; omega, ?_⟩
    intro k hk
    obtain ⟨k, rfl⟩ : ∃ m, k = m + 1 := ⟨k - 1, by omega⟩
    refine ⟨?_, ?_⟩
    · simp only [spec_l02Index.l0]
      rw [if_neg (show ¬ (i : Int) < (t.length : Int) by omega)]
    · simp only [impl_numberOf.l0]
      rw [if_neg (show ¬ (i : Int) < (t.length : Int) by omega)]
  | succ d ih =>
    intro i a B hi h0 h1 hB
    have q1 : (i : Int) < (t.length : Int) := by clear ih ht hB hl h0 h1; omega
    have q2 : 0 ≤ (i : Int) := Int.natCast_nonneg i
    have hb := ht _ (rd_mem t i (by omega))
    obtain ⟨c, hc⟩ : ∃ c, rd t (i : Int) = c := ⟨_, rfl⟩
    rw [hc] at hb
    have hp := pwI_pos s hs d
    have e : B * pwI s (d + 1) = B * s * pwI s d := by
      show B * (pwI s d * s) = B * s * pwI s d
      rw [Int.mul_assoc, Int.mul_comm s]
    rw [e] at hB ⊢
    have hBs : B * s ≤ 1000000 := by
      have h2 : B * s * 1 ≤ B * s * pwI s d := Int.mul_le_mul_of_nonneg_left hp (by rcases hs with rfl | rfl <;> omega)
      omega
    obtain ⟨v, v0, v1, v2⟩ := ih (i + 1) (a * s + c) (B * s) (by omega) (by rcases hs with rfl | rfl <;> omega) (by rcases hs with rfl | rfl <;> omega) hB
    refine ⟨v, v0, v1, ?_⟩
    intro k hk
    obtain ⟨k, rfl⟩ : ∃ m, k = m + 1 := ⟨k - 1, by omega⟩
    have w1 : wrap64 (a * s) = a * s := by unfold wrap64; rcases hs with rfl | rfl <;> omega
    have w2 : wrap64 (a * s + c) = a * s + c := by unfold wrap64; rcases hs with rfl | rfl <;> omega
    have w3 : wrap64 ((i : Int) + 1) = ((i + 1 : Nat) : Int) := by unfold wrap64; omega
    obtain ⟨g1, g2⟩ := v2 k (by omega)
    refine ⟨?_, ?_⟩
    · simp only [spec_l02Index.l0]
      rw [if_pos q1, if_pos q2, hc, w1, w2, w3]
      exact g1
    · simp only [impl_numberOf.l0]
      rw [if_pos q1, if_pos q2, if_pos q1, hc, w1, w2, w3]
      exact g2
theorem num_f (s : Int) (hs : s = 2 ∨ s = 3) (t : List Int) (ht : ∀ y ∈ t, 0 ≤ y ∧ y ≤ s - 1) (hl : t.length ≤ 1000) (hp : pwI s t.length ≤ 1000000) :
    ∃ v, 0 ≤ v ∧ v < pwI s t.length ∧ ∀ k, t.length < k → spec_l02Index.f k t s = some v ∧ impl_numberOf.f k t s = some v := by
  obtain ⟨v, v0, v1, v2⟩ := num_loop s hs t ht hl t.length 0 0 1 (by omega) (by omega) (by omega) (by omega)
  rw [Int.one_mul] at v1
  exact ⟨v, v0, v1, v2⟩

/-- impl.made's loop, over variables alone. -/
theorem made_gen (tell : Nat → List Int → Option Int) (s r long : Int) (N : Nat) (hN : N ≤ 243) (h4 : wrap64 (wrap64 (2 * r) + 1) = long) (val : Nat → Int)
    (hst : ∀ x, x < N → ∃ t, (∀ k, 12 ≤ k → impl_digitsOf.f k (x : Int) s long = some t) ∧ ∀ k, 12 ≤ k → tell k t = some (val x)) (d : Nat) : ∀ (k x : Nat) (acc : List Int), x + d = N → acc.length = x → d + 14 < k →
    impl_made.l0 tell k s (N : Int) (x : Int) s r acc = some (s, r, acc ++ (List.range' x d).map val) := by
  induction d with
  | zero =>
    intro k x acc hx ha hk
    obtain ⟨k, rfl⟩ : ∃ m, k = m + 1 := ⟨k - 1, by omega⟩
    have q1 : ¬ (x : Int) < (N : Int) := by omega
    simp only [impl_made.l0]
    rw [if_neg q1]
    simp
  | succ d ih =>
    intro k x acc hx ha hk
    obtain ⟨k, rfl⟩ : ∃ m, k = m + 1 := ⟨k - 1, by omega⟩
    have hxN : x < N := by omega
    have q1 : (x : Int) < (N : Int) := by omega
    have q2 : acc.length < 17592186044416 := by omega
    have q3 : wrap64 ((x : Int) + 1) = ((x + 1 : Nat) : Int) := by unfold wrap64; omega
    obtain ⟨t, h1, h2⟩ := hst x hxN
    have g1 := h1 k (by omega)
    have g2 := h2 k (by omega)
    have g3 := ih k (x + 1) (acc ++ [val x]) (by omega) (by simp; omega) (by omega)
    simp only [impl_made.l0, impl_Rule_cells.f]
    rw [if_pos q1]
    simp only [Option.bind_some]
    rw [h4, g1]
    simp only [Option.bind_some]
    rw [g2]
    simp only [Option.bind_some]
    rw [if_pos q2, q3, g3, List.range'_succ, List.map_cons, List.append_assoc]
    rfl

end FnExactMirrorRuleParts
open FnExactMirrorRuleParts

theorem back_loop (x : List Int) (hx : x.length ≤ 1000) (n : Nat) : ∀ (k : Nat) (acc : List Int), n ≤ x.length → acc.length ≤ 1000 → n + acc.length ≤ 1000 → n < k → spec_l02Back.l0 k x acc ((n : Int) - 1) = some (acc ++ (x.take n).reverse) := by
  induction n with
  | zero =>
    intro k acc hn ha hs hk
    obtain ⟨k, rfl⟩ : ∃ m, k = m + 1 := ⟨k - 1, by omega⟩
    have q1 : ¬ (((0 : Nat) : Int) - 1 ≥ 0) := by omega
    simp only [spec_l02Back.l0]
    rw [if_neg q1]
    simp
  | succ n ih =>
    intro k acc hn ha hs hk
    obtain ⟨k, rfl⟩ : ∃ m, k = m + 1 := ⟨k - 1, by omega⟩
    have q1 : ((n + 1 : Nat) : Int) - 1 = (n : Int) := by omega
    have q2 : (n : Int) ≥ 0 := by omega
    have q3 : (n : Int) < (x.length : Int) := by omega
    have q4 : acc.length < 17592186044416 := by omega
    have q5 : wrap64 ((n : Int) - 1) = (n : Int) - 1 := by unfold wrap64; omega
    have g := ih k (acc ++ [rd x (n : Int)]) (by omega) (by simp; omega) (by simp; omega) (by omega)
    have e : (x.take (n + 1)).reverse = rd x (n : Int) :: (x.take n).reverse := by
      have hl : n < x.length := by omega
      rw [List.take_succ_eq_append_getElem hl, List.reverse_append]
      have : rd x (n : Int) = x[n] := by
        unfold rd; rw [List.getD_eq_getElem?_getD]; simp [hl]
      rw [this]; rfl
    rw [q1]
    simp only [spec_l02Back.l0]
    rw [if_pos q2, if_pos q2, if_pos q3, if_pos q4, q5, g, e, List.append_assoc]
    rfl
theorem back_f (x : List Int) (hx : x.length ≤ 500) (k : Nat) (hk : x.length < k) : spec_l02Back.f k x = some x.reverse := by
  unfold spec_l02Back.f
  have h := back_loop x (by omega) x.length k [] (Nat.le_refl _) (by simp) (by simp; omega) hk
  have e : wrap64 ((x.length : Int) - 1) = (x.length : Int) - 1 := by unfold wrap64; omega
  rw [e, h, List.take_length]
  rfl

theorem mirror_gen (s c long : Int) (l : List Int) (N : Nat) (hN : N ≤ 243) (hlN : l.length = N) (h4 : wrap64 (wrap64 (2 * c) + 1) = long) (val : Nat → Int)
    (hst : ∀ x, x < N → ∃ t u v, (∀ k, 12 ≤ k → spec_l02Digits.f k (x : Int) s long = some t) ∧ (∀ k, 12 ≤ k → spec_l02Back.f k t = some u) ∧ (∀ k, 12 ≤ k → spec_l02Index.f k u s = some v) ∧ 0 ≤ v ∧ v < (l.length : Int) ∧ rd l v = val x) (d : Nat) :
    ∀ (k x : Nat) (acc : List Int), x + d = N → acc.length = x → d + 14 < k → spec_MirrorRule.l0 k (x : Int) s c l s c acc = some (s, c, acc ++ (List.range' x d).map val, true) := by
  induction d with
  | zero =>
    intro k x acc hx ha hk
    obtain ⟨k, rfl⟩ : ∃ m, k = m + 1 := ⟨k - 1, by omega⟩
    have q1 : ¬ (x : Int) < (l.length : Int) := by omega
    simp only [spec_MirrorRule.l0]
    rw [if_neg q1]
    simp
  | succ d ih =>
    intro k x acc hx ha hk
    obtain ⟨k, rfl⟩ : ∃ m, k = m + 1 := ⟨k - 1, by omega⟩
    have hxN : x < N := by omega
    have q1 : (x : Int) < (l.length : Int) := by omega
    have q2 : acc.length < 17592186044416 := by omega
    have q3 : wrap64 ((x : Int) + 1) = ((x + 1 : Nat) : Int) := by unfold wrap64; omega
    obtain ⟨t, u, v, h1, h2, h3, h5, h6, h7⟩ := hst x hxN
    have g0 := h1 k (by omega)
    have g1 := h2 k (by omega)
    have g2 := h3 k (by omega)
    have g3 := ih k (x + 1) (acc ++ [val x]) (by omega) (by simp; omega) (by omega)
    simp only [spec_MirrorRule.l0]
    rw [if_pos q1, h4, g0]
    simp only [Option.bind_some]
    rw [g1]
    simp only [Option.bind_some]
    rw [g2]
    simp only [Option.bind_some]
    rw [if_pos h5, if_pos h6, if_pos q2, q3, h7, g3, List.range'_succ, List.map_cons, List.append_assoc]
    rfl

/-- What MirrorRule tells at an index. -/
def mval (S c : Nat) (l : List Int) (x : Nat) : Int := rd l ((spec_l02Index.f 12 (digs S (2 * c + 1) x).reverse (S : Int)).getD 0)
theorem w_f (c : Nat) (h : c ≤ 2) : wrap64 (wrap64 (2 * (c : Int)) + 1) = ((2 * c + 1 : Nat) : Int) := by unfold wrap64; omega

theorem mirror_step (S c : Nat) (l : List Int) (hS : S = 2 ∨ S = 3) (hc : c ≤ 2) (hL : Aside0 ((l.length : Int) = pwI (S : Int) (2 * c + 1))) (hL3 : Aside0 (pwI (S : Int) (2 * c + 1) ≤ 1000000)) (x : Nat) (hx : x ≤ 1000) :
    ∃ v, (∀ k, 12 ≤ k → spec_l02Index.f k (digs S (2 * c + 1) x).reverse (S : Int) = some v) ∧ (∀ k, 12 ≤ k → impl_numberOf.f k (digs S (2 * c + 1) x).reverse (S : Int) = some v) ∧ 0 ≤ v ∧ v < (l.length : Int) ∧ rd l v = mval S c l x := by
  have hlen := digs_len S (2 * c + 1) x
  have hlt := digs_lt S (by omega) (2 * c + 1) x
  have hml : (digs S (2 * c + 1) x).reverse.length = 2 * c + 1 := by rw [List.length_reverse, hlen]
  obtain ⟨v, v0, v1, v2⟩ := num_f (S : Int) (by omega) (digs S (2 * c + 1) x).reverse (fun y hy => hlt y (List.mem_reverse.mp hy)) (by omega) (by rw [hml]; exact hL3.out)
  rw [hml] at v1 v2
  refine ⟨v, fun k hk => (v2 k (by omega)).1, fun k hk => (v2 k (by omega)).2, v0, by rw [hL.out]; exact v1, ?_⟩
  unfold mval
  rw [(v2 12 (by omega)).1]
  rfl

theorem mirror_tell (s c : Int) (l t : List Int) (v : Int) (k : Nat) (hlen : t.length = 1 ∨ t.length = 3 ∨ t.length = 5) (h : impl_numberOf.f k t.reverse s = some v) (v0 : 0 ≤ v) (v1 : v < (l.length : Int)) :
    impl_MirrorRule_1.f k t s c l = some (rd l v) := by
  unfold impl_MirrorRule_1.f impl_reversed.f impl_Rule_tells.f
  rw [if_pos hlen]
  simp only [Option.bind_some]
  rw [h]
  simp only [Option.bind_some]
  rw [if_pos v0, if_pos v1]
  simp only [Option.bind_some]

theorem mirror_loops (S c : Nat) (l : List Int) (hS : S = 2 ∨ S = 3) (hc : c ≤ 2) (N : Nat) (hN : N ≤ 243) (hlN : l.length = N) (hL : Aside0 ((l.length : Int) = pwI (S : Int) (2 * c + 1))) (hL3 : Aside0 (pwI (S : Int) (2 * c + 1) ≤ 1000000)) (k : Nat) (hk : N + 14 < k) :
    ∃ y, spec_MirrorRule.l0 k ((0 : Nat) : Int) S c l S c [] = some ((S : Int), (c : Int), y, true) ∧
      impl_made.l0 (fun k_ l_ => impl_MirrorRule_1.f k_ l_ S c l) k S (N : Int) ((0 : Nat) : Int) S c [] = some ((S : Int), (c : Int), y) ∧ y.length ≤ 243 := by
  refine ⟨[] ++ (List.range' 0 N).map (mval S c l), ?_, ?_, by simp; exact hN⟩
  · refine mirror_gen (S : Int) (c : Int) ((2 * c + 1 : Nat) : Int) l N hN hlN (w_f c hc) (mval S c l) ?_ N k 0 [] (Nat.zero_add N) rfl hk
    intro x hx
    obtain ⟨v, b, _, d, e, f⟩ := mirror_step S c l hS hc hL hL3 x (by omega)
    have hlen := digs_len S (2 * c + 1) x
    exact ⟨digs S (2 * c + 1) x, _, v, fun k hk => spec_digits_f S hS (2 * c + 1) x k (by omega) (by omega) (by omega), fun k hk => back_f _ (by omega) k (by omega), b, d, e, f⟩
  · refine made_gen _ (S : Int) (c : Int) ((2 * c + 1 : Nat) : Int) N hN (w_f c hc) (mval S c l) ?_ N k 0 [] (Nat.zero_add N) rfl hk
    intro x hx
    obtain ⟨v, _, b, d, e, f⟩ := mirror_step S c l hS hc hL hL3 x (by omega)
    have hlen := digs_len S (2 * c + 1) x
    refine ⟨digs S (2 * c + 1) x, fun k hk => impl_digits_f S hS (2 * c + 1) x k (by omega) (by omega) (by omega), fun k hk => ?_⟩
    rw [← f]
    exact mirror_tell S c l _ v k (by omega) (b k hk) d e

open Go.Proofs.Ytcigmgocllnhfaa.Va in
theorem mirror_same (s c : Int) (l : List Int) (hs : I64 s) (hc : I64 c) (hn : l.length ≤ 140737488351232) (k : Nat) (hk : l.length + 300 < k) :
    ∃ (s' r' : Int) (y : List Int) (b : Bool), spec_MirrorRule.f k s c l = some (s', r', y, b) ∧ impl_MirrorRule.f k s c l = some (s', r', y, b) ∧ y.length ≤ 243 := by
  unfold spec_MirrorRule.f impl_MirrorRule.f
  rw [is_f s c l hs hc hn, valid_f s c l hn _ (by omega)]
  simp only [Option.bind_some]
  cases hv : validB s c l with
  | false => exact ⟨_, _, _, _, rfl, rfl, by simp⟩
  | true =>
    have hv2 := hv
    unfold validB at hv2
    simp only [Bool.and_eq_true, decide_eq_true_eq] at hv2
    obtain ⟨hs2, hc2, hl, -⟩ := hv2
    obtain ⟨S, rfl⟩ : ∃ S : Nat, s = S := ⟨s.toNat, by omega⟩
    obtain ⟨C, rfl⟩ : ∃ C : Nat, c = C := ⟨c.toNat, by omega⟩
    have hS : S = 2 ∨ S = 3 := by omega
    have hC : C = 0 ∨ C = 1 ∨ C = 2 := by omega
    have F := powFacts S C hS hC
    have hlN : l.length = S ^ (2 * C + 1) := by
      rw [show (2 * (C : Int) + 1).toNat = 2 * C + 1 by omega] at hl
      exact Int.ofNat.inj (hl.trans (Int.natCast_pow _ _).symm)
    have hP : ((S ^ (2 * C + 1) : Nat) : Int) = pwI (S : Int) (2 * C + 1) := by
      rcases hS with rfl | rfl <;> rcases hC with rfl | rfl | rfl <;> rfl
    have hN := F.hp
    have hra := at_rounds (fun k => impl_raised.mono _ _ k) (show 12 ≤ k by omega) F.ra
    have HL := Aside0.mk (show (l.length : Int) = pwI (S : Int) (2 * C + 1) by rw [hlN]; exact hP)
    have HL3 : Aside0 (pwI (S : Int) (2 * C + 1) ≤ 1000000) := ⟨by rw [← hP]; exact Int.ofNat_le.mpr (Nat.le_trans hN (by decide))⟩
    clear hP hl F
    revert hlN hra
    generalize S ^ (2 * C + 1) = N at hN
    intro hlN hra
    obtain ⟨y, y1, y2, y3⟩ := mirror_loops S C l hS (by omega) N hN hlN HL HL3 k (by omega)
    have e3 := w_f C (by omega)
    simp only [if_true]
    rw [show (0 : Int) = ((0 : Nat) : Int) from rfl, y1]
    unfold impl_made.f impl_Rule_cells.f
    simp only [Option.bind_some, e3, hra]
    rw [show (0 : Int) = ((0 : Nat) : Int) from rfl, y2]
    exact ⟨_, _, _, _, rfl, rfl, y3⟩

theorem FnExactMirrorRule (s c : Int) (l : List Int) (hs : I64 s) (hc : I64 c) (hn : l.length ≤ 9223372036854775807) : ∃ k, laws_FnExactMirrorRule.f k s c l = some true := by
  obtain ⟨K, hK⟩ : ∃ K, K = l.length + 301 := ⟨_, rfl⟩
  refine ⟨K + 3, ?_⟩
  unfold laws_FnExactMirrorRule.f
  rw [sz_f s c l hn 1048576 (by omega)]
  simp only [Option.bind_some]
  by_cases h : (l.length : Int) ≤ 1048576
  · obtain ⟨s', r', y, b, h1, h2, hy⟩ := mirror_same s c l hs hc (by omega) (K + 3) (by omega)
    obtain ⟨s2, r2, y2, b2, g1, g2, -⟩ := mirror_same s c l hs hc (by omega) (K + 1) (by omega)
    have e := at_rounds (fun k => spec_MirrorRule.mono s c l k) (show K + 1 ≤ K + 3 by omega) g1
    rw [h1] at e
    obtain ⟨rfl, rfl, rfl, rfl⟩ : s' = s2 ∧ r' = r2 ∧ y = y2 ∧ b = b2 := by simpa using e
    have hbb : (b != b) = false := by cases b <;> rfl
    obtain ⟨m0, hm1, hm2, hm3⟩ := markRule_f s c l (by omega) (K + 2) (by omega)
    obtain ⟨m, gm1, gm2, gm3⟩ := markRule_f s' r' y (by omega) (K + 1) (by omega)
    have hh := heldRule_f s' r' m (by omega) gm3 (K + 1) (by omega)
    have hh' := heldRule_f s' r' m (by omega) gm3 K (by omega)
    rw [gm2] at hh hh'
    rw [if_pos h, if_neg (by omega), toRule_f s c l (by omega) _ (by omega)]
    simp only [Option.bind_some, h1, h2, eqRule_f s' r' y (by omega) (K + 3) (by omega), if_true, laws_FnExactMirrorRule.j0, hbb, Bool.false_eq_true, if_false, toRule_f s c l (by omega) (K + 2) (by omega), eqRule_f s c l (by omega) (K + 2) (by omega), hm1]
    rw [if_neg (by omega)]
    simp only [Option.bind_some, eqRule_f s' r' y (by omega) (K + 2) (by omega), if_true, laws_FnExactMirrorRule.j1, hbb, Bool.false_eq_true, if_false, gm1, hh]
    rw [if_neg (by omega)]
    simp only [toRule_f s c l (by omega) (K + 1) (by omega), Option.bind_some, g2, eqRule_f s' r' y (by omega) (K + 1) (by omega), if_true, laws_FnExactMirrorRule.j2, hbb, Bool.false_eq_true, if_false, hh']
    rw [if_neg (by omega)]
  · rw [if_neg h, if_pos (by omega)]

end Go.Proofs.Ytcigmgocllnhfaa.Pure
