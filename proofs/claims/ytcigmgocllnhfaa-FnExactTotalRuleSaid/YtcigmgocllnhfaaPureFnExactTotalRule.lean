/- The plain law of FnExactTotalRule, over the functions beside: program and reference answer alike. No condition beyond the stated bounds. -/
import Derived.Test.YtcigmgocllnhfaaQFnExactTotalRulex5
namespace Go.Proofs.Ytcigmgocllnhfaa.Pure
open Go.RowKit Go.Proofs.Ytcigmgocllnhfaa.QFnExactTotalRule Go.Proofs.YtcigmgocllnhfaaW.PrintWords Go.Proofs.YtcigmgocllnhfaaW.PrintLast
set_option linter.unusedSimpArgs false
set_option linter.unusedVariables false

namespace FnExactTotalRuleParts
theorem eq_loop (x0 : List Int) (hn : x0.length ≤ 140737488351232) (d : Nat) : ∀ (k : Nat) (i : Int), 0 ≤ i → (x0.length : Int) - i = d → d < k → laws_eqInt64S.l0 k x0 x0 i = some true := by
  induction d with
  | zero =>
    intro k i h0 hd hk
    obtain ⟨k, rfl⟩ : ∃ m, k = m + 1 := ⟨k - 1, by omega⟩
    simp only [laws_eqInt64S.l0]
    rw [if_neg (by omega)]
  | succ d ih =>
    intro k i h0 hd hk
    obtain ⟨k, rfl⟩ : ∃ m, k = m + 1 := ⟨k - 1, by omega⟩
    simp only [laws_eqInt64S.l0]
    rw [if_pos (by omega), if_pos h0, if_pos (by omega), if_pos trivial, show wrap64 (i + 1) = i + 1 by unfold wrap64; omega]
    exact ih k (i + 1) (by omega) (by omega) (by omega)

theorem eq_f (x0 : List Int) (hn : x0.length ≤ 140737488351232) (k : Nat) (hk : x0.length < k) : laws_eqInt64S.f k x0 x0 = some true := by
  unfold laws_eqInt64S.f
  rw [if_pos rfl]
  exact eq_loop x0 hn x0.length k 0 (by omega) (by omega) hk

theorem rd_get (x : List Int) (i : Int) (h0 : 0 ≤ i) (h : i < (x.length : Int)) : x[i.toNat]? = some (rd x i) := by
  unfold rd
  rw [List.getD_eq_getElem?_getD, List.getElem?_eq_getElem (by omega)]
  rfl

theorem wrap_up {i : Int} {n : Nat} (h0 : 0 ≤ i) (h : i < (n : Int)) (hn : n ≤ 140737488351232) : wrap64 (i + 1) = i + 1 := by
  unfold wrap64; omega

theorem copy_loop (x0 : List Int) (hn : x0.length ≤ 140737488351232) (d : Nat) : ∀ (k : Nat) (x3 : List Int) (i : Int), 0 ≤ i → (x0.length : Int) - i = d → x3.length = x0.length →
    (∀ j : Nat, (j : Int) < i → x3[j]? = x0[j]?) → d < k → laws_toInt64S.l0 k x0 x3 i = some x0 := by
  induction d with
  | zero =>
    intro k x3 i h0 hd hl hj hk
    obtain ⟨k, rfl⟩ : ∃ m, k = m + 1 := ⟨k - 1, by omega⟩
    simp only [laws_toInt64S.l0]
    rw [if_neg (by omega)]
    congr 1
    apply List.ext_getElem?
    intro j
    by_cases h : (j : Int) < i
    · exact hj j h
    · rw [List.getElem?_eq_none (by omega), List.getElem?_eq_none (by omega)]
  | succ d ih =>
    intro k x3 i h0 hd hl hj hk
    obtain ⟨k, rfl⟩ : ∃ m, k = m + 1 := ⟨k - 1, by omega⟩
    simp only [laws_toInt64S.l0]
    rw [if_pos (by omega), if_pos h0, if_pos (by omega), wrap_up (n := x0.length) h0 (by omega) hn]
    refine ih k _ (i + 1) (by omega) (by omega) (by simpa using hl) ?_ (by omega)
    intro j hlt
    rw [List.getElem?_set]
    by_cases h : i.toNat = j
    · subst h
      rw [if_pos rfl, if_pos (by omega), rd_get x0 i h0 (by omega)]
    · rw [if_neg h]
      exact hj j (by omega)

theorem copy_f (x0 : List Int) (hn : x0.length * 8 ≤ 140737488351232) (k : Nat) (hk : x0.length < k) : laws_toInt64S.f k x0 = some x0 := by
  unfold laws_toInt64S.f
  rw [if_pos (by omega), if_pos (by omega)]
  exact copy_loop x0 (by omega) x0.length k _ 0 (by omega) (by omega) (by simp) (by intro j h; omega) hk

theorem in_f (a b c : Int) : spec_l00In.f a b c = some (decide (b ≤ a ∧ a ≤ c)) := by
  unfold spec_l00In.f
  by_cases h : a ≥ b
  · rw [if_pos h]; simp; omega
  · rw [if_neg h]; simp; omega

theorem within_f (a b c : Int) : impl_within.f a b c = some (decide (b ≤ a ∧ a ≤ c)) := by
  unfold impl_within.f
  by_cases h : a ≥ b
  · rw [if_pos h]; simp; omega
  · rw [if_neg h]; simp; omega


/-- What marking leaves: a, a + 1, .. -/
def Marked (a : Int) (x : List Int) : Prop := ∀ j : Nat, j < x.length → x[j]? = some (a + j)

theorem mark_loop (n : Nat) (hn : n ≤ 140737488351232) (d : Nat) : ∀ (k : Nat) (x : List Int) (i a : Int), 0 ≤ i → x.length = n → (n : Int) - i = d → a = 1 + i →
    (∀ j : Nat, (j : Int) < i → x[j]? = some (1 + (j : Int))) → d < k → ∃ y, laws_markInt64S.l0 k x a i = some (1 + (n : Int), y) ∧ y.length = n ∧ Marked 1 y := by
  induction d with
  | zero =>
    intro k x i a h0 hl hd ha hj hk
    obtain ⟨k, rfl⟩ : ∃ m, k = m + 1 := ⟨k - 1, by omega⟩
    simp only [laws_markInt64S.l0]
    rw [if_neg (by omega)]
    exact ⟨x, by rw [show a = 1 + (n : Int) by omega], hl, fun j h => hj j (by omega)⟩
  | succ d ih =>
    intro k x i a h0 hl hd ha hj hk
    obtain ⟨k, rfl⟩ : ∃ m, k = m + 1 := ⟨k - 1, by omega⟩
    simp only [laws_markInt64S.l0]
    rw [if_pos (by omega), if_pos h0, show wrap64 (i + 1) = i + 1 by unfold wrap64; omega, show wrap64 (a + 1) = a + 1 by unfold wrap64; omega]
    refine ih k _ (i + 1) (a + 1) (by omega) (by simpa using hl) (by omega) (by omega) ?_ (by omega)
    intro j hlt
    rw [List.getElem?_set]
    by_cases h : i.toNat = j
    · subst h
      rw [if_pos rfl, if_pos (by omega)]
      congr 1; omega
    · rw [if_neg h]
      exact hj j (by omega)

theorem mark_f (x : List Int) (hn : x.length ≤ 140737488351232) (k : Nat) (hk : x.length < k) : ∃ y, laws_markInt64S.f k x 1 = some (1 + (x.length : Int), y) ∧ y.length = x.length ∧ Marked 1 y := by
  unfold laws_markInt64S.f
  exact mark_loop x.length hn x.length k x 0 1 (by omega) rfl (by omega) (by omega) (by intro j h; omega) hk

theorem held_loop (x : List Int) (hn : x.length ≤ 140737488351232) (hm : Marked 1 x) (d : Nat) : ∀ (k : Nat) (i a : Int), 0 ≤ i → (x.length : Int) - i = d → a = 1 + i → d < k →
    laws_heldInt64S.l0 k x a i = some (1 + (x.length : Int)) := by
  induction d with
  | zero =>
    intro k i a h0 hd ha hk
    obtain ⟨k, rfl⟩ : ∃ m, k = m + 1 := ⟨k - 1, by omega⟩
    simp only [laws_heldInt64S.l0]
    rw [if_neg (by omega)]
    congr 1; omega
  | succ d ih =>
    intro k i a h0 hd ha hk
    obtain ⟨k, rfl⟩ : ∃ m, k = m + 1 := ⟨k - 1, by omega⟩
    simp only [laws_heldInt64S.l0]
    have hr : rd x i = a := by
      have h1 := hm i.toNat (by omega)
      unfold rd
      rw [List.getD_eq_getElem?_getD, h1]
      simp; omega
    rw [if_pos (by omega), if_pos h0, if_pos hr, show wrap64 (i + 1) = i + 1 by unfold wrap64; omega, show wrap64 (a + 1) = a + 1 by unfold wrap64; omega]
    exact ih k (i + 1) (a + 1) (by omega) (by omega) (by omega) (by omega)

theorem held_f (x : List Int) (hn : x.length ≤ 140737488351232) (hm : Marked 1 x) (k : Nat) (hk : x.length < k) : laws_heldInt64S.f k x 1 = some (1 + (x.length : Int)) := by
  unfold laws_heldInt64S.f
  exact held_loop x hn hm x.length k 0 1 (by omega) (by omega) (by omega) hk

theorem eqRule_f (s r : Int) (x : List Int) (hn : x.length ≤ 140737488351232) (k : Nat) (hk : x.length < k) : laws_eqRule.f k s r x s r x = some true := by
  unfold laws_eqRule.f
  rw [if_pos rfl, if_pos rfl, eq_f x hn k hk]
  rfl

theorem markRule_f (s r : Int) (x : List Int) (hn : x.length ≤ 140737488351232) (k : Nat) (hk : x.length < k) : ∃ y, laws_markRule.f k s r x 1 = some (1 + (x.length : Int), y) ∧ y.length = x.length ∧ Marked 1 y := by
  obtain ⟨y, h1, h2, h3⟩ := mark_f x hn k hk
  refine ⟨y, ?_, h2, h3⟩
  unfold laws_markRule.f
  rw [h1]
  rfl

theorem heldRule_f (s r : Int) (x : List Int) (hn : x.length ≤ 140737488351232) (hm : Marked 1 x) (k : Nat) (hk : x.length < k) : laws_heldRule.f k s r x 1 = some (1 + (x.length : Int)) := by
  unfold laws_heldRule.f
  rw [held_f x hn hm k hk]
  simp only [Option.bind_some]
  rw [if_neg (by omega)]

open Go.Proofs.Ytcigmgocllnhfaa.Va in
theorem areWithin_f (x : List Int) (hn : x.length ≤ 140737488351232) (t : Int) (d : Nat) : ∀ (k : Nat) (i : Nat), x.length - i = d → i ≤ x.length → d < k →
    impl_areWithin.l0 k 0 (t - 1) x x.length (i : Int) = some (rowB t (x.drop i)) := by
  induction d with
  | zero =>
    intro k i hd hi hk
    obtain ⟨k, rfl⟩ : ∃ m, k = m + 1 := ⟨k - 1, by omega⟩
    simp only [impl_areWithin.l0]
    rw [if_neg (by omega), show i = x.length by omega, List.drop_length]
    rfl
  | succ d ih =>
    intro k i hd hi hk
    obtain ⟨k, rfl⟩ : ∃ m, k = m + 1 := ⟨k - 1, by omega⟩
    simp only [impl_areWithin.l0, if_pos (show (i : Int) < (x.length : Int) by omega), if_pos (show 0 ≤ (i : Int) by omega), within_f, Option.bind_some, show wrap64 ((i : Int) + 1) = ((i + 1 : Nat) : Int) by unfold wrap64; omega]
    rw [rowB_drop t x i (by omega)]
    cases hb : decide (0 ≤ rd x (i : Int) ∧ rd x (i : Int) ≤ t - 1) with
    | true => simp only [if_true, Bool.true_and]; exact ih k (i + 1) (by omega) (by omega) (by omega)
    | false => simp only [Bool.false_eq_true, if_false, Bool.false_and]

theorem raised_f (k : Nat) (hk : 8 ≤ k) : impl_raised.f k 2 1 = some 2 ∧ impl_raised.f k 2 3 = some 8 ∧ impl_raised.f k 2 5 = some 32 ∧ impl_raised.f k 3 1 = some 3 ∧ impl_raised.f k 3 3 = some 27 ∧ impl_raised.f k 3 5 = some 243 := by
  obtain ⟨k, rfl⟩ : ∃ m, k = m + 8 := ⟨k - 8, by omega⟩
  refine ⟨?_, ?_, ?_, ?_, ?_, ?_⟩ <;> simp [impl_raised.f, impl_raised.l0, wrap64]

open Go.Proofs.Ytcigmgocllnhfaa.Va in
theorem validB_at (s c : Int) (l : List Int) (n : Int) (hs : s = 2 ∨ s = 3) (hc : 0 ≤ c ∧ c ≤ 2) (hn : s ^ (2 * c + 1).toNat = n) : validB s c l = (decide ((l.length : Int) = n) && rowB s l) := by
  unfold validB
  rw [decide_eq_true (show 2 ≤ s ∧ s ≤ 3 by omega), decide_eq_true hc, hn]; rfl

open Go.Proofs.Ytcigmgocllnhfaa.Va in
theorem many_f (s n : Int) (l : List Int) (hs : s = 2 ∨ s = 3) (hn : l.length ≤ 140737488351232) (k : Nat) (hk : l.length < k) : impl_areMany.f k l n n 0 (wrap64 (s - 1)) = some (decide ((l.length : Int) = n) && rowB s l) := by
  have e : wrap64 (s - 1) = s - 1 := by unfold wrap64; omega
  unfold impl_areMany.f impl_areWithin.f
  rw [within_f, e]
  simp only [Option.bind_some]
  have h := areWithin_f l hn s l.length k 0 (by omega) (by omega) hk
  rw [List.drop_zero] at h
  by_cases hl : (l.length : Int) = n
  · rw [decide_eq_true (show n ≤ (l.length : Int) ∧ (l.length : Int) ≤ n by omega), decide_eq_true hl]
    simp only [if_true, Bool.true_and]
    rw [show ((0 : Nat) : Int) = 0 from rfl] at h
    rw [h]; rfl
  · rw [decide_eq_false (show ¬ (n ≤ (l.length : Int) ∧ (l.length : Int) ≤ n) by omega), decide_eq_false hl]
    simp only [Bool.false_eq_true, if_false, Bool.false_and]

def I64 (x : Int) : Prop := -9223372036854775808 ≤ x ∧ x ≤ 9223372036854775807

open Go.Proofs.Ytcigmgocllnhfaa.Va in
theorem is_f (s c : Int) (l : List Int) (hs : I64 s) (hc : I64 c) (hn : l.length ≤ 140737488351232) (k : Nat) : spec_l02Is.f k s c l = some (validB s c l) := by
  unfold spec_l02Is.f
  rw [if_pos ⟨hs, hc, hn⟩]


/-- The digits of a number, the greatest one first. -/
def digs (s : Nat) : Nat → Nat → List Int
  | 0, _ => []
  | n + 1, x => digs s n (x / s) ++ [((x % s : Nat) : Int)]
theorem digs_len (s : Nat) : ∀ n x, (digs s n x).length = n
  | 0, _ => rfl
  | n + 1, x => by simp [digs, digs_len s n]
theorem digs_lt (s : Nat) (hs : 0 < s) : ∀ n x, ∀ y ∈ digs s n x, 0 ≤ y ∧ y ≤ (s : Int) - 1
  | 0, _ => by simp [digs]
  | n + 1, x => by
    intro y hy
    rcases List.mem_append.mp hy with h | h
    · exact digs_lt s hs n _ y h
    · have h' : y = ((x % s : Nat) : Int) := by simpa using h
      subst h'
      have := Nat.mod_lt x hs
      omega
theorem spec_digits_loop (s : Nat) (hs : s = 2 ∨ s = 3) : ∀ (n k x : Nat) (l : List Int), x ≤ 1000000 → n ≤ l.length → n ≤ 1000 → n < k → spec_l02Digits.l0 k (x : Int) (s : Int) l ((n : Int) - 1) = some (digs s n x ++ l.drop n) := by
  intro n
  induction n with
  | zero =>
    intro k x l hx hl hn hk
    obtain ⟨k, rfl⟩ : ∃ m, k = m + 1 := ⟨k - 1, by omega⟩
    simp only [spec_l02Digits.l0]
    rw [if_neg (by omega)]
    rfl
  | succ n ih =>
    intro k x l hx hl hn hk
    obtain ⟨k, rfl⟩ : ∃ m, k = m + 1 := ⟨k - 1, by omega⟩
    have ed : Int.tdiv (x : Int) (s : Int) = ((x / s : Nat) : Int) := rfl
    have em : Int.tmod (x : Int) (s : Int) = ((x % s : Nat) : Int) := rfl
    have hd : x / s ≤ x := Nat.div_le_self _ _
    have he : digs s (n + 1) x = digs s n (x / s) ++ [((x % s : Nat) : Int)] := rfl
    rw [he]
    clear he
    revert ed em hd
    generalize x / s = q
    generalize x % s = z
    intro ed em hd
    simp only [spec_l02Digits.l0]
    rw [if_pos (by omega), if_neg (by omega), if_pos (by omega), if_pos (by omega), ed, em, show wrap64 (q : Int) = (q : Int) by unfold wrap64; omega, show wrap64 (((n + 1 : Nat) : Int) - 1 - 1) = ((n : Nat) : Int) - 1 by unfold wrap64; omega, show (((n + 1 : Nat) : Int) - 1).toNat = n by omega]
    rw [ih k q (l.set n (z : Int)) (by omega) (by simp; omega) (by omega) (by omega)]
    congr 1
    rw [List.append_assoc]
    congr 1
    rw [List.drop_eq_getElem_cons (by simp; omega), List.drop_set_of_lt (by omega)]
    simp
theorem spec_digits_f (s : Nat) (hs : s = 2 ∨ s = 3) (n x k : Nat) (hx : x ≤ 1000000) (hn : n ≤ 1000) (hk : n < k) : spec_l02Digits.f k (x : Int) (s : Int) (n : Int) = some (digs s n x) := by
  unfold spec_l02Digits.f
  rw [if_pos (by omega), show ((n : Nat) : Int).toNat = n by omega, if_pos (by omega), show wrap64 ((n : Int) - 1) = (n : Int) - 1 by unfold wrap64; omega]
  rw [spec_digits_loop s hs n k x (List.replicate n 0) hx (by simp) hn hk]
  simp
theorem impl_digits_loop (s : Nat) (hs : s = 2 ∨ s = 3) : ∀ (n k x : Nat) (l : List Int), x ≤ 1000000 → n ≤ l.length → n ≤ 1000 → n < k → impl_digitsOf.l0 k (x : Int) (s : Int) l ((n : Int) - 1) = some (digs s n x ++ l.drop n) := by
  intro n
  induction n with
  | zero =>
    intro k x l hx hl hn hk
    obtain ⟨k, rfl⟩ : ∃ m, k = m + 1 := ⟨k - 1, by omega⟩
    simp only [impl_digitsOf.l0]
    rw [if_neg (by omega)]
    rfl
  | succ n ih =>
    intro k x l hx hl hn hk
    obtain ⟨k, rfl⟩ : ∃ m, k = m + 1 := ⟨k - 1, by omega⟩
    have ed : Int.tdiv (x : Int) (s : Int) = ((x / s : Nat) : Int) := rfl
    have em : Int.tmod (x : Int) (s : Int) = ((x % s : Nat) : Int) := rfl
    have hd : x / s ≤ x := Nat.div_le_self _ _
    have he : digs s (n + 1) x = digs s n (x / s) ++ [((x % s : Nat) : Int)] := rfl
    rw [he]
    clear he
    revert ed em hd
    generalize x / s = q
    generalize x % s = z
    intro ed em hd
    simp only [impl_digitsOf.l0]
    rw [if_pos (by omega), if_neg (by omega), if_pos (by omega), if_pos (by omega), ed, em, show wrap64 (q : Int) = (q : Int) by unfold wrap64; omega, show wrap64 (((n + 1 : Nat) : Int) - 1 - 1) = ((n : Nat) : Int) - 1 by unfold wrap64; omega, show (((n + 1 : Nat) : Int) - 1).toNat = n by omega]
    rw [ih k q (l.set n (z : Int)) (by omega) (by simp; omega) (by omega) (by omega)]
    congr 1
    rw [List.append_assoc]
    congr 1
    rw [List.drop_eq_getElem_cons (by simp; omega), List.drop_set_of_lt (by omega)]
    simp
theorem impl_digits_f (s : Nat) (hs : s = 2 ∨ s = 3) (n x k : Nat) (hx : x ≤ 1000000) (hn : n ≤ 1000) (hk : n < k) : impl_digitsOf.f k (x : Int) (s : Int) (n : Int) = some (digs s n x) := by
  unfold impl_digitsOf.f
  rw [if_pos (by omega), show ((n : Nat) : Int).toNat = n by omega, if_pos (by omega), show wrap64 ((n : Int) - 1) = (n : Int) - 1 by unfold wrap64; omega]
  rw [impl_digits_loop s hs n k x (List.replicate n 0) hx (by simp) hn hk]
  simp

/-- The sum of the digits. -/
def sumd (s : Nat) : Nat → Nat → Nat
  | 0, _ => 0
  | n + 1, x => sumd s n (x / s) + x % s
theorem sumd_digs (s : Nat) : ∀ n x, (digs s n x).sum = ((sumd s n x : Nat) : Int)
  | 0, _ => rfl
  | n + 1, x => by simp [digs, sumd, sumd_digs s n]
theorem sum_drop (t : List Int) (i : Nat) (h : i < t.length) : (t.drop i).sum = rd t (i : Int) + (t.drop (i + 1)).sum := by
  rw [List.drop_eq_getElem_cons h, List.sum_cons]
  congr 1
  unfold rd
  rw [List.getD_eq_getElem?_getD]
  simp [h]
theorem sum_le (t : List Int) (h : ∀ y ∈ t, 0 ≤ y ∧ y ≤ 2) : 0 ≤ t.sum ∧ t.sum ≤ 2 * t.length := by
  induction t with
  | nil => simp
  | cons a t ih =>
    have h1 := h a (by simp)
    have h2 := ih (fun y hy => h y (by simp [hy]))
    rw [List.sum_cons, List.length_cons]
    omega
theorem spec_sum_loop (t : List Int) (ht : ∀ y ∈ t, 0 ≤ y ∧ y ≤ 2) (hl : t.length ≤ 1000) (d : Nat) : ∀ (k i : Nat) (a : Int), i + d = t.length → 0 ≤ a → a ≤ 2 * i → d < k → spec_l02Sum.l0 k t a (i : Int) = some (a + (t.drop i).sum) := by
  induction d with
  | zero =>
    intro k i a hi h0 h1 hk
    obtain ⟨k, rfl⟩ : ∃ m, k = m + 1 := ⟨k - 1, by omega⟩
    simp only [spec_l02Sum.l0]
    rw [if_neg (by omega), List.drop_eq_nil_of_le (by omega)]
    simp
  | succ d ih =>
    intro k i a hi h0 h1 hk
    obtain ⟨k, rfl⟩ : ∃ m, k = m + 1 := ⟨k - 1, by omega⟩
    have hm : rd t (i : Int) ∈ t := by
      have : rd t (i : Int) = t[i]'(by omega) := by
        unfold rd; rw [List.getD_eq_getElem?_getD]; simp [show i < t.length by omega]
      rw [this]; exact List.getElem_mem _
    have hb := ht _ hm
    simp only [spec_l02Sum.l0]
    rw [if_pos (by omega), if_pos (by omega), show wrap64 (a + rd t (i : Int)) = a + rd t (i : Int) by unfold wrap64; omega, show wrap64 ((i : Int) + 1) = ((i + 1 : Nat) : Int) by unfold wrap64; omega]
    rw [ih k (i + 1) _ (by omega) (by omega) (by omega) (by omega), sum_drop t i (by omega)]
    congr 1; omega
theorem impl_sum_loop (t : List Int) (ht : ∀ y ∈ t, 0 ≤ y ∧ y ≤ 2) (hl : t.length ≤ 1000) (d : Nat) : ∀ (k i : Nat) (a : Int), i + d = t.length → 0 ≤ a → a ≤ 2 * i → d < k → impl_sumOf.l0 k a t (t.length : Int) (i : Int) = some (a + (t.drop i).sum) := by
  induction d with
  | zero =>
    intro k i a hi h0 h1 hk
    obtain ⟨k, rfl⟩ : ∃ m, k = m + 1 := ⟨k - 1, by omega⟩
    simp only [impl_sumOf.l0]
    rw [if_neg (by omega), List.drop_eq_nil_of_le (by omega)]
    simp
  | succ d ih =>
    intro k i a hi h0 h1 hk
    obtain ⟨k, rfl⟩ : ∃ m, k = m + 1 := ⟨k - 1, by omega⟩
    have hm : rd t (i : Int) ∈ t := by
      have : rd t (i : Int) = t[i]'(by omega) := by
        unfold rd; rw [List.getD_eq_getElem?_getD]; simp [show i < t.length by omega]
      rw [this]; exact List.getElem_mem _
    have hb := ht _ hm
    simp only [impl_sumOf.l0]
    rw [if_pos (by omega), if_pos (by omega), if_pos (by omega), show wrap64 (a + rd t (i : Int)) = a + rd t (i : Int) by unfold wrap64; omega, show wrap64 ((i : Int) + 1) = ((i + 1 : Nat) : Int) by unfold wrap64; omega]
    rw [ih k (i + 1) _ (by omega) (by omega) (by omega) (by omega), sum_drop t i (by omega)]
    congr 1; omega

theorem sumd_le (s : Nat) (hs : s = 2 ∨ s = 3) (n : Nat) : ∀ x, sumd s n x ≤ n * (s - 1) := by
  induction n with
  | zero => intro x; simp [sumd]
  | succ n ih =>
    intro x
    have h1 := ih (x / s)
    have h2 : x % s < s := Nat.mod_lt _ (by omega)
    show sumd s n (x / s) + x % s ≤ (n + 1) * (s - 1)
    generalize sumd s n (x / s) = a at h1 ⊢
    rcases hs with rfl | rfl <;> omega
theorem sumd_cov (s : Nat) (hs : s = 2 ∨ s = 3) (n : Nat) : ∀ v, v ≤ n * (s - 1) → ∃ x, x < s ^ n ∧ sumd s n x = v := by
  induction n with
  | zero => intro v hv; exact ⟨0, by simp, by simp at hv; simp [sumd, hv]⟩
  | succ n ih =>
    intro v hv
    obtain ⟨c, hc⟩ : ∃ c, c = min v (s - 1) := ⟨_, rfl⟩
    obtain ⟨x, h1, h2⟩ := ih (v - c) (by rcases hs with rfl | rfl <;> omega)
    refine ⟨x * s + c, ?_, ?_⟩
    · rw [Nat.pow_succ]
      rcases hs with rfl | rfl <;> omega
    · show sumd s n ((x * s + c) / s) + (x * s + c) % s = v
      have e1 : (x * s + c) / s = x := by rcases hs with rfl | rfl <;> omega
      have e2 : (x * s + c) % s = c := by rcases hs with rfl | rfl <;> omega
      rw [e1, e2, h2]; omega

structure SumFacts (s long : Nat) : Prop where
  hs : s = 2 ∨ s = 3
  hl : long ≤ 5
  hp : s ^ long ≤ 243
  le : ∀ x, x < s ^ long → sumd s long x < long * (s - 1) + 1
  cov : ∀ v, v < long * (s - 1) + 1 → ∃ x, x < s ^ long ∧ sumd s long x = v
  pw : spec_l02Powers.f 12 (s : Int) (long : Int) = some ((s ^ long : Nat) : Int)
  ra : impl_raised.f 12 (s : Int) (long : Int) = some ((s ^ long : Nat) : Int)

theorem sumFacts21 : SumFacts 2 1 := ⟨by decide, by decide, by decide, fun x _ => Nat.lt_succ_of_le (sumd_le _ (by first | exact Or.inl rfl | exact Or.inr rfl) _ x), fun v hv => sumd_cov _ (by first | exact Or.inl rfl | exact Or.inr rfl) _ v (Nat.le_of_lt_succ hv), by decide +kernel, by decide +kernel⟩
theorem sumFacts23 : SumFacts 2 3 := ⟨by decide, by decide, by decide, fun x _ => Nat.lt_succ_of_le (sumd_le _ (by first | exact Or.inl rfl | exact Or.inr rfl) _ x), fun v hv => sumd_cov _ (by first | exact Or.inl rfl | exact Or.inr rfl) _ v (Nat.le_of_lt_succ hv), by decide +kernel, by decide +kernel⟩
theorem sumFacts25 : SumFacts 2 5 := ⟨by decide, by decide, by decide, fun x _ => Nat.lt_succ_of_le (sumd_le _ (by first | exact Or.inl rfl | exact Or.inr rfl) _ x), fun v hv => sumd_cov _ (by first | exact Or.inl rfl | exact Or.inr rfl) _ v (Nat.le_of_lt_succ hv), by decide +kernel, by decide +kernel⟩
theorem sumFacts31 : SumFacts 3 1 := ⟨by decide, by decide, by decide, fun x _ => Nat.lt_succ_of_le (sumd_le _ (by first | exact Or.inl rfl | exact Or.inr rfl) _ x), fun v hv => sumd_cov _ (by first | exact Or.inl rfl | exact Or.inr rfl) _ v (Nat.le_of_lt_succ hv), by decide +kernel, by decide +kernel⟩
theorem sumFacts33 : SumFacts 3 3 := ⟨by decide, by decide, by decide, fun x _ => Nat.lt_succ_of_le (sumd_le _ (by first | exact Or.inl rfl | exact Or.inr rfl) _ x), fun v hv => sumd_cov _ (by first | exact Or.inl rfl | exact Or.inr rfl) _ v (Nat.le_of_lt_succ hv), by decide +kernel, by decide +kernel⟩
theorem sumFacts35 : SumFacts 3 5 := ⟨by decide, by decide, by decide, fun x _ => Nat.lt_succ_of_le (sumd_le _ (by first | exact Or.inl rfl | exact Or.inr rfl) _ x), fun v hv => sumd_cov _ (by first | exact Or.inl rfl | exact Or.inr rfl) _ v (Nat.le_of_lt_succ hv), by decide +kernel, by decide +kernel⟩
theorem sumFacts (s r : Nat) (hs : s = 2 ∨ s = 3) (hr : r = 0 ∨ r = 1 ∨ r = 2) : SumFacts s (2 * r + 1) := by
  rcases hs with rfl | rfl <;> rcases hr with rfl | rfl | rfl
  · exact sumFacts21
  · exact sumFacts23
  · exact sumFacts25
  · exact sumFacts31
  · exact sumFacts33
  · exact sumFacts35
theorem pow_small (s r : Nat) (hs : s = 2 ∨ s = 3) (hr : r = 0 ∨ r = 1 ∨ r = 2) : s ^ (2 * r + 1) ≤ 243 := by
  rcases hs with rfl | rfl <;> rcases hr with rfl | rfl | rfl <;> decide

theorem SumFacts.small {s long : Nat} (F : SumFacts s long) (x : Nat) : ∀ y ∈ digs s long x, 0 ≤ y ∧ y ≤ 2 := by
  intro y hy
  have := digs_lt s (by have := F.hs; omega) long x y hy
  have := F.hs
  omega
theorem SumFacts.sp' {s long : Nat} (F : SumFacts s long) (x : Nat) (hx : x < s ^ long) : ∃ t, (∀ k, 12 ≤ k → spec_l02Digits.f k (x : Int) (s : Int) (long : Int) = some t) ∧ ∀ k, 12 ≤ k → spec_l02Sum.f k t = some ((sumd s long x : Nat) : Int) := by
  have hp := F.hp
  have hl := F.hl
  refine ⟨digs s long x, fun k hk => spec_digits_f s F.hs long x k (by omega) (by omega) (by omega), fun k hk => ?_⟩
  unfold spec_l02Sum.f
  have h := spec_sum_loop (digs s long x) (F.small x) (by rw [digs_len]; omega) long k 0 0 (by rw [digs_len]; omega) (by omega) (by omega) (by omega)
  rw [show ((0 : Nat) : Int) = 0 from rfl] at h
  rw [h, List.drop_zero, sumd_digs]; simp
theorem SumFacts.im' {s long : Nat} (F : SumFacts s long) (x : Nat) (hx : x < s ^ long) : ∃ t, (∀ k, 12 ≤ k → impl_digitsOf.f k (x : Int) (s : Int) (long : Int) = some t) ∧ ∀ k, 12 ≤ k → impl_sumOf.f k t = some ((sumd s long x : Nat) : Int) := by
  have hp := F.hp
  have hl := F.hl
  refine ⟨digs s long x, fun k hk => impl_digits_f s F.hs long x k (by omega) (by omega) (by omega), fun k hk => ?_⟩
  unfold impl_sumOf.f
  have h := impl_sum_loop (digs s long x) (F.small x) (by rw [digs_len]; omega) long k 0 0 (by rw [digs_len]; omega) (by omega) (by omega) (by omega)
  rw [show ((0 : Nat) : Int) = 0 from rfl] at h
  rw [h, List.drop_zero, sumd_digs]; simp

end FnExactTotalRuleParts
open FnExactTotalRuleParts

/-- The table that looks at sums alone. -/
def tab (s long : Nat) (l : List Int) (n : Nat) : List Int := (List.range n).map fun x => rd l ((sumd s long x : Nat) : Int)
theorem tab_succ (s long : Nat) (l : List Int) (n : Nat) : tab s long l (n + 1) = tab s long l n ++ [rd l ((sumd s long n : Nat) : Int)] := by
  unfold tab; rw [List.range_succ, List.map_append]; rfl
theorem tab_len (s long : Nat) (l : List Int) (n : Nat) : (tab s long l n).length = n := by unfold tab; simp

open Go.Proofs.Ytcigmgocllnhfaa.Va in
theorem tab_row (s long : Nat) (l : List Int) (F : SumFacts s long) (hl : l.length = long * (s - 1) + 1) : rowB (s : Int) (tab s long l (s ^ long)) = rowB (s : Int) l := by
  unfold rowB
  rw [Bool.eq_iff_iff]
  simp only [List.all_eq_true, tab, List.mem_map, List.mem_range]
  constructor
  · intro h x hx
    obtain ⟨v, hv, rfl⟩ := List.getElem_of_mem hx
    obtain ⟨y, hy, hyv⟩ := F.cov v (by omega)
    have := h _ ⟨y, hy, rfl⟩
    rw [hyv] at this
    have e : rd l ((v : Nat) : Int) = l[v] := by
      unfold rd; rw [List.getD_eq_getElem?_getD]; simp [hv]
    rwa [e] at this
  · rintro h x ⟨y, hy, rfl⟩
    have hv := F.le y hy
    have hv' : sumd s long y < l.length := by omega
    have e : rd l ((sumd s long y : Nat) : Int) = l[sumd s long y] := by
      unfold rd; rw [List.getD_eq_getElem?_getD]; simp [hv']
    rw [e]
    exact h _ (List.getElem_mem _)

open Go.Proofs.Ytcigmgocllnhfaa.Va in
theorem spec_loop (s r : Nat) (l : List Int) (F : SumFacts s (2 * r + 1)) (hs : s = 2 ∨ s = 3) (hr : r = 0 ∨ r = 1 ∨ r = 2) (hl : l.length = (2 * r + 1) * (s - 1) + 1) (d : Nat) : ∀ (k x : Nat), x + d = s ^ (2 * r + 1) → d + 14 < k →
    spec_TotalRule.l0 k s l ((2 * r + 1 : Nat) : Int) (x : Int) s r (tab s (2 * r + 1) l x) =
      some (if validB (s : Int) (r : Int) (tab s (2 * r + 1) l (s ^ (2 * r + 1))) then ((s : Int), (r : Int), tab s (2 * r + 1) l (s ^ (2 * r + 1)), true) else (0, 0, [], false)) := by
  have hp := pow_small s r hs hr
  induction d with
  | zero =>
    intro k x hx hk
    obtain ⟨k, rfl⟩ : ∃ m, k = m + 1 := ⟨k - 1, by omega⟩
    simp only [spec_TotalRule.l0, at_rounds (fun k => spec_l02Powers.mono _ _ k) (show 12 ≤ k by omega) F.pw, Option.bind_some]
    rw [if_neg (by omega)]
    have hx' : x = s ^ (2 * r + 1) := by omega
    rw [hx']
    unfold spec_l02Give.f
    rw [is_f _ _ _ (by unfold I64; omega) (by unfold I64; omega) (by rw [tab_len]; omega)]
    simp only [Option.bind_some]
    cases validB (s : Int) (r : Int) (tab s (2 * r + 1) l (s ^ (2 * r + 1))) <;> rfl
  | succ d ih =>
    intro k x hx hk
    obtain ⟨k, rfl⟩ : ∃ m, k = m + 1 := ⟨k - 1, by omega⟩
    obtain ⟨t, h1, h2⟩ := F.sp' x (by omega)
    have hv := F.le x (by omega)
    simp only [spec_TotalRule.l0, at_rounds (fun k => spec_l02Powers.mono _ _ k) (show 12 ≤ k by omega) F.pw, Option.bind_some]
    rw [if_pos (by omega), h1 k (by omega)]
    simp only [Option.bind_some]
    rw [h2 k (by omega)]
    simp only [Option.bind_some]
    rw [if_pos (by omega), if_pos (by omega), tab_len, if_pos (by omega), ← tab_succ, show wrap64 ((x : Int) + 1) = ((x + 1 : Nat) : Int) by unfold wrap64; omega]
    exact ih k (x + 1) (by omega) (by omega)

theorem made_loop (s r : Int) (S long : Nat) (l : List Int) (N : Nat) (hN : N ≤ 243) (hle : ∀ x, x < N → sumd S long x < l.length) (h4 : wrap64 (wrap64 (2 * r) + 1) = (long : Int))
    (him : ∀ x, x < N → ∃ t, (∀ k, 12 ≤ k → impl_digitsOf.f k (x : Int) s (long : Int) = some t) ∧ ∀ k, 12 ≤ k → impl_sumOf.f k t = some ((sumd S long x : Nat) : Int)) (d : Nat) : ∀ (k x : Nat), x + d = N → d + 14 < k →
    impl_made.l0 (impl_TotalRule_1.f l) k s (N : Int) (x : Int) s r (tab S long l x) = some (s, r, tab S long l N) := by
  induction d with
  | zero =>
    intro k x hx hk
    obtain ⟨k, rfl⟩ : ∃ m, k = m + 1 := ⟨k - 1, by omega⟩
    simp only [impl_made.l0]
    rw [if_neg (by omega)]
    have hx' : x = N := by omega
    rw [hx']
  | succ d ih =>
    intro k x hx hk
    obtain ⟨k, rfl⟩ : ∃ m, k = m + 1 := ⟨k - 1, by omega⟩
    have hx2 : x < N := by omega
    obtain ⟨t, h1, h2⟩ := him x hx2
    have hv := hle x hx2
    have hk2 : 12 ≤ k := by omega
    simp only [impl_made.l0, impl_Rule_cells.f, impl_TotalRule_1.f]
    rw [if_pos (show (x : Int) < (N : Int) by omega)]
    simp only [Option.bind_some]
    rw [h4, h1 k hk2]
    simp only [Option.bind_some]
    rw [h2 k hk2]
    simp only [Option.bind_some]
    rw [if_pos (show 0 ≤ ((sumd S long x : Nat) : Int) by omega), if_pos (show ((sumd S long x : Nat) : Int) < (l.length : Int) by omega)]
    simp only [Option.bind_some]
    rw [tab_len, if_pos (show x < 17592186044416 by omega), ← tab_succ, show wrap64 ((x : Int) + 1) = ((x + 1 : Nat) : Int) by unfold wrap64; omega]
    exact ih k (x + 1) (by omega) (by omega)

open Go.Proofs.Ytcigmgocllnhfaa.Va in
theorem total_same (s r : Int) (l : List Int) (hn : l.length ≤ 140737488351232) (k : Nat) (hk : l.length + 300 < k) :
    ∃ (s' r' : Int) (y : List Int) (b : Bool), spec_TotalRule.f k s r l = some (s', r', y, b) ∧ impl_TotalRule.f k s r l = some (s', r', y, b) ∧ y.length ≤ 243 := by
  obtain ⟨k, rfl⟩ : ∃ m, k = m + 1 := ⟨k - 1, by omega⟩
  unfold spec_TotalRule.f impl_TotalRule.f impl_areStates.f impl_isReach.f
  simp only [in_f, within_f, Option.bind_some]
  by_cases hs : s = 2 ∨ s = 3
  · have e2 : (if s = 2 then some true else some (s == 3)) = some true := by rcases hs with rfl | rfl <;> rfl
    rw [e2, decide_eq_true (show 2 ≤ s ∧ s ≤ 3 by omega)]
    simp only [Option.bind_some, if_true]
    by_cases hr : 0 ≤ r ∧ r ≤ 2
    · obtain ⟨S, rfl⟩ : ∃ S : Nat, s = S := ⟨s.toNat, by omega⟩
      obtain ⟨R, rfl⟩ : ∃ R : Nat, r = R := ⟨r.toNat, by omega⟩
      have hS : S = 2 ∨ S = 3 := by omega
      have hR : R = 0 ∨ R = 1 ∨ R = 2 := by omega
      have F := sumFacts S R hS hR
      have hp := pow_small S R hS hR
      have e3 : wrap64 (wrap64 (wrap64 (wrap64 (2 * (R : Int)) + 1) * wrap64 ((S : Int) - 1)) + 1) = (((2 * R + 1) * (S - 1) + 1 : Nat) : Int) := by
        rcases hS with rfl | rfl <;> rcases hR with rfl | rfl | rfl <;> decide +kernel
      have e4 : wrap64 (wrap64 (2 * (R : Int)) + 1) = ((2 * R + 1 : Nat) : Int) := by unfold wrap64; omega
      have e5 : wrap64 ((S : Int) - 1) = (S : Int) - 1 := by unfold wrap64; omega
      rw [decide_eq_true hr]
      simp only [if_true, Bool.not_true, spec_TotalRule.j0, impl_TotalRule.j0, Bool.false_eq_true, if_false]
      rw [e3, e4]
      rw [many_f _ _ l (by omega) hn k (by omega)]
      simp only [Option.bind_some]
      by_cases hl : (l.length : Int) = (((2 * R + 1) * (S - 1) + 1 : Nat) : Int)
      · rw [decide_eq_true hl, Bool.true_and]
        have hb : ((l.length : Int) != (((2 * R + 1) * (S - 1) + 1 : Nat) : Int)) = false := by simpa using hl
        simp only [hb, Bool.false_eq_true, if_false]
        have hsl := spec_loop S R l F hS hR (by omega) (S ^ (2 * R + 1)) k 0 (by omega) (by omega)
        rw [show tab S (2 * R + 1) l 0 = [] from rfl] at hsl
        rw [show ((0 : Nat) : Int) = 0 from rfl] at hsl
        rw [hsl, validB_at (S : Int) (R : Int) _ _ (by omega) (by omega) rfl, tab_row S (2 * R + 1) l F (by omega), tab_len]
        rw [decide_eq_true (show (((S ^ (2 * R + 1) : Nat) : Int)) = (S : Int) ^ (2 * (R : Int) + 1).toNat by
          rw [show (2 * (R : Int) + 1).toNat = 2 * R + 1 by omega]; exact Int.natCast_pow _ _), Bool.true_and]
        cases hv : rowB (S : Int) l with
        | false => simp only [Bool.false_eq_true, if_false]; exact ⟨_, _, _, _, rfl, rfl, by simp⟩
        | true =>
          simp only [if_true]
          have hml := made_loop (S : Int) (R : Int) S (2 * R + 1) l (S ^ (2 * R + 1)) hp (fun x hx => by have := F.le x hx; omega) e4 F.im' (S ^ (2 * R + 1)) k 0 (Nat.zero_add _) (by omega)
          rw [show tab S (2 * R + 1) l 0 = [] from rfl, show ((0 : Nat) : Int) = 0 from rfl] at hml
          unfold impl_made.f impl_Rule_cells.f
          simp only [Option.bind_some, e4, at_rounds (fun k => impl_raised.mono _ _ k) (show 12 ≤ k by omega) F.ra, hml]
          exact ⟨_, _, _, _, rfl, rfl, by rw [tab_len]; exact hp⟩
      · rw [decide_eq_false hl, Bool.false_and]
        have hb : ((l.length : Int) != (((2 * R + 1) * (S - 1) + 1 : Nat) : Int)) = true := by simpa using hl
        simp only [hb, if_true, Bool.false_eq_true, if_false]
        exact ⟨_, _, _, _, rfl, rfl, by simp⟩
    · rw [decide_eq_false hr]
      simp only [Bool.false_eq_true, if_false, Bool.not_false, spec_TotalRule.j0, impl_TotalRule.j0, if_true]
      exact ⟨_, _, _, _, rfl, rfl, by simp⟩
  · have e2 : (if s = 2 then some true else some (s == 3)) = some false := by
      rw [if_neg (by omega)]; congr 1; simp; omega
    rw [e2, decide_eq_false (show ¬ (2 ≤ s ∧ s ≤ 3) by omega)]
    simp only [Option.bind_some, Bool.false_eq_true, if_false, spec_TotalRule.j0, impl_TotalRule.j0, if_true]
    exact ⟨_, _, _, _, rfl, rfl, by simp⟩

theorem FnExactTotalRule : laws_FnExactTotalRule.Pure := by
  intro s r l _ _ _ hl _
  have hn : l.length ≤ 140737488351232 := by omega
  obtain ⟨K, hK⟩ : ∃ K, K = l.length + 301 := ⟨_, rfl⟩
  obtain ⟨s', r', y, b, h1, h2, hy⟩ := total_same s r l hn (K + 3) (by omega)
  obtain ⟨s2, r2, y2, b2, g1, g2, -⟩ := total_same s r l hn (K + 1) (by omega)
  have e := at_rounds (fun k => spec_TotalRule.mono s r l k) (show K + 1 ≤ K + 3 by omega) g1
  rw [h1] at e
  obtain ⟨rfl, rfl, rfl, rfl⟩ : s' = s2 ∧ r' = r2 ∧ y = y2 ∧ b = b2 := by simpa using e
  refine ⟨K + 3, ?_⟩
  unfold laws_FnExactTotalRule.f
  by_cases hb : (l.length : Int) > 1048576
  · rw [if_pos hb]
  rw [if_neg hb, copy_f l hl _ (by omega)]
  have hbb : (b != b) = false := by cases b <;> rfl
  obtain ⟨m0, hm1, hm2, hm3⟩ := mark_f l hn (K + 2) (by omega)
  obtain ⟨m, gm1, gm2, gm3⟩ := markRule_f s' r' y (by omega) (K + 1) (by omega)
  have hh := heldRule_f s' r' m (by omega) gm3 (K + 1) (by omega)
  have hh' := heldRule_f s' r' m (by omega) gm3 K (by omega)
  rw [gm2] at hh hh'
  simp only [Option.bind_some, h1, h2, eqRule_f s' r' y (by omega) (K + 3) (by omega), if_true, laws_FnExactTotalRule.j0, hbb, Bool.false_eq_true, if_false, copy_f l hl (K + 2) (by omega), eq_f l hn (K + 2) (by omega), hm1]
  rw [if_neg (by omega)]
  simp only [Option.bind_some, eqRule_f s' r' y (by omega) (K + 2) (by omega), if_true, laws_FnExactTotalRule.j1, hbb, Bool.false_eq_true, if_false, gm1, hh]
  rw [if_neg (by omega)]
  simp only [copy_f l hl (K + 1) (by omega), Option.bind_some, g2, eqRule_f s' r' y (by omega) (K + 1) (by omega), if_true, laws_FnExactTotalRule.j2, hbb, Bool.false_eq_true, if_false, hh']
  rw [if_neg (by omega)]

end Go.Proofs.Ytcigmgocllnhfaa.Pure
