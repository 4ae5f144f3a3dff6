/- The plain law of FnExactIsTotal, over the functions beside: program and reference answer alike. No condition beyond the stated bounds. -/
import Derived.Test.YtcigmgocllnhfaaQFnExactIsTotalx5
namespace Go.Proofs.Ytcigmgocllnhfaa.Pure
open Go.RowKit Go.Proofs.Ytcigmgocllnhfaa.QFnExactIsTotal Go.Proofs.YtcigmgocllnhfaaW.PrintWords Go.Proofs.YtcigmgocllnhfaaW.PrintLast
set_option linter.unusedSimpArgs false
set_option linter.unusedVariables false

namespace FnExactIsTotalParts
theorem eq_loop (x0 : List Int) (hn : x0.length ≤ 140737488351232) (d : Nat) : ∀ (k : Nat) (i : Int), 0 ≤ i → (x0.length : Int) - i = d → d < k → laws_eqInt64S.l0 k x0 x0 i = some true := by
  induction d with
  | zero =>
    intro k i h0 hd hk
    obtain ⟨k, rfl⟩ : ∃ m, k = m + 1 := ⟨k - 1, by omega⟩
    simp only [laws_eqInt64S.l0]
    rw [if_neg (by omega)]
  | succ d ih =>
    intro k i h0 hd hk
    obtain ⟨k, rfl⟩ : ∃ m, k = m + 1 := ⟨k - 1, by omega⟩
    simp only [laws_eqInt64S.l0]
    rw [if_pos (by omega), if_pos h0, if_pos (by omega), if_pos trivial, show wrap64 (i + 1) = i + 1 by unfold wrap64; omega]
    exact ih k (i + 1) (by omega) (by omega) (by omega)

theorem eq_f (x0 : List Int) (hn : x0.length ≤ 140737488351232) (k : Nat) (hk : x0.length < k) : laws_eqInt64S.f k x0 x0 = some true := by
  unfold laws_eqInt64S.f
  rw [if_pos rfl]
  exact eq_loop x0 hn x0.length k 0 (by omega) (by omega) hk

theorem rd_get (x : List Int) (i : Int) (h0 : 0 ≤ i) (h : i < (x.length : Int)) : x[i.toNat]? = some (rd x i) := by
  unfold rd
  rw [List.getD_eq_getElem?_getD, List.getElem?_eq_getElem (by omega)]
  rfl

theorem wrap_up {i : Int} {n : Nat} (h0 : 0 ≤ i) (h : i < (n : Int)) (hn : n ≤ 140737488351232) : wrap64 (i + 1) = i + 1 := by
  unfold wrap64; omega

theorem copy_loop (x0 : List Int) (hn : x0.length ≤ 140737488351232) (d : Nat) : ∀ (k : Nat) (x3 : List Int) (i : Int), 0 ≤ i → (x0.length : Int) - i = d → x3.length = x0.length →
    (∀ j : Nat, (j : Int) < i → x3[j]? = x0[j]?) → d < k → laws_toInt64S.l0 k x0 x3 i = some x0 := by
  induction d with
  | zero =>
    intro k x3 i h0 hd hl hj hk
    obtain ⟨k, rfl⟩ : ∃ m, k = m + 1 := ⟨k - 1, by omega⟩
    simp only [laws_toInt64S.l0]
    rw [if_neg (by omega)]
    congr 1
    apply List.ext_getElem?
    intro j
    by_cases h : (j : Int) < i
    · exact hj j h
    · rw [List.getElem?_eq_none (by omega), List.getElem?_eq_none (by omega)]
  | succ d ih =>
    intro k x3 i h0 hd hl hj hk
    obtain ⟨k, rfl⟩ : ∃ m, k = m + 1 := ⟨k - 1, by omega⟩
    simp only [laws_toInt64S.l0]
    rw [if_pos (by omega), if_pos h0, if_pos (by omega), wrap_up (n := x0.length) h0 (by omega) hn]
    refine ih k _ (i + 1) (by omega) (by omega) (by simpa using hl) ?_ (by omega)
    intro j hlt
    rw [List.getElem?_set]
    by_cases h : i.toNat = j
    · subst h
      rw [if_pos rfl, if_pos (by omega), rd_get x0 i h0 (by omega)]
    · rw [if_neg h]
      exact hj j (by omega)

theorem copy_f (x0 : List Int) (hn : x0.length * 8 ≤ 140737488351232) (k : Nat) (hk : x0.length < k) : laws_toInt64S.f k x0 = some x0 := by
  unfold laws_toInt64S.f
  rw [if_pos (by omega), if_pos (by omega)]
  exact copy_loop x0 (by omega) x0.length k _ 0 (by omega) (by omega) (by simp) (by intro j h; omega) hk

theorem in_f (a b c : Int) : spec_l00In.f a b c = some (decide (b ≤ a ∧ a ≤ c)) := by
  unfold spec_l00In.f
  by_cases h : a ≥ b
  · rw [if_pos h]; simp; omega
  · rw [if_neg h]; simp; omega

theorem within_f (a b c : Int) : impl_within.f a b c = some (decide (b ≤ a ∧ a ≤ c)) := by
  unfold impl_within.f
  by_cases h : a ≥ b
  · rw [if_pos h]; simp; omega
  · rw [if_neg h]; simp; omega


open Go.Proofs.Ytcigmgocllnhfaa.Va in
theorem areWithin_f (x : List Int) (hn : x.length ≤ 140737488351232) (t : Int) (d : Nat) : ∀ (k : Nat) (i : Nat), x.length - i = d → i ≤ x.length → d < k →
    impl_areWithin.l0 k 0 (t - 1) x x.length (i : Int) = some (rowB t (x.drop i)) := by
  induction d with
  | zero =>
    intro k i hd hi hk
    obtain ⟨k, rfl⟩ : ∃ m, k = m + 1 := ⟨k - 1, by omega⟩
    simp only [impl_areWithin.l0]
    rw [if_neg (by omega), show i = x.length by omega, List.drop_length]
    rfl
  | succ d ih =>
    intro k i hd hi hk
    obtain ⟨k, rfl⟩ : ∃ m, k = m + 1 := ⟨k - 1, by omega⟩
    simp only [impl_areWithin.l0, if_pos (show (i : Int) < (x.length : Int) by omega), if_pos (show 0 ≤ (i : Int) by omega), within_f, Option.bind_some, show wrap64 ((i : Int) + 1) = ((i + 1 : Nat) : Int) by unfold wrap64; omega]
    rw [rowB_drop t x i (by omega)]
    cases hb : decide (0 ≤ rd x (i : Int) ∧ rd x (i : Int) ≤ t - 1) with
    | true => simp only [if_true, Bool.true_and]; exact ih k (i + 1) (by omega) (by omega) (by omega)
    | false => simp only [Bool.false_eq_true, if_false, Bool.false_and]

theorem raised_f (k : Nat) (hk : 8 ≤ k) : impl_raised.f k 2 1 = some 2 ∧ impl_raised.f k 2 3 = some 8 ∧ impl_raised.f k 2 5 = some 32 ∧ impl_raised.f k 3 1 = some 3 ∧ impl_raised.f k 3 3 = some 27 ∧ impl_raised.f k 3 5 = some 243 := by
  obtain ⟨k, rfl⟩ : ∃ m, k = m + 8 := ⟨k - 8, by omega⟩
  refine ⟨?_, ?_, ?_, ?_, ?_, ?_⟩ <;> simp [impl_raised.f, impl_raised.l0, wrap64]

open Go.Proofs.Ytcigmgocllnhfaa.Va in
theorem validB_at (s c : Int) (l : List Int) (n : Int) (hs : s = 2 ∨ s = 3) (hc : 0 ≤ c ∧ c ≤ 2) (hn : s ^ (2 * c + 1).toNat = n) : validB s c l = (decide ((l.length : Int) = n) && rowB s l) := by
  unfold validB
  rw [decide_eq_true (show 2 ≤ s ∧ s ≤ 3 by omega), decide_eq_true hc, hn]; rfl

open Go.Proofs.Ytcigmgocllnhfaa.Va in
theorem many_f (s n : Int) (l : List Int) (hs : s = 2 ∨ s = 3) (hn : l.length ≤ 140737488351232) (k : Nat) (hk : l.length < k) : impl_areMany.f k l n n 0 (wrap64 (s - 1)) = some (decide ((l.length : Int) = n) && rowB s l) := by
  have e : wrap64 (s - 1) = s - 1 := by unfold wrap64; omega
  unfold impl_areMany.f impl_areWithin.f
  rw [within_f, e]
  simp only [Option.bind_some]
  have h := areWithin_f l hn s l.length k 0 (by omega) (by omega) hk
  rw [List.drop_zero] at h
  by_cases hl : (l.length : Int) = n
  · rw [decide_eq_true (show n ≤ (l.length : Int) ∧ (l.length : Int) ≤ n by omega), decide_eq_true hl]
    simp only [if_true, Bool.true_and]
    rw [show ((0 : Nat) : Int) = 0 from rfl] at h
    rw [h]; rfl
  · rw [decide_eq_false (show ¬ (n ≤ (l.length : Int) ∧ (l.length : Int) ≤ n) by omega), decide_eq_false hl]
    simp only [Bool.false_eq_true, if_false, Bool.false_and]

open Go.Proofs.Ytcigmgocllnhfaa.Va in
theorem valid_f (s c : Int) (l : List Int) (hn : l.length ≤ 140737488351232) (k : Nat) (hk : l.length + 10 < k) : impl_ValidRule.f k s c l = some (validB s c l) := by
  obtain ⟨k, rfl⟩ : ∃ m, k = m + 1 := ⟨k - 1, by omega⟩
  unfold impl_ValidRule.f impl_areStates.f impl_isReach.f
  rw [within_f]
  by_cases hs : s = 2 ∨ s = 3
  · have e2 : (if s = 2 then some true else some (s == 3)) = some true := by rcases hs with rfl | rfl <;> rfl
    rw [e2]
    simp only [Option.bind_some, if_true]
    by_cases hc : 0 ≤ c ∧ c ≤ 2
    · rw [decide_eq_true hc]
      simp only [Bool.not_true, impl_ValidRule.j0, Bool.false_eq_true, if_false, impl_Rule_cells.f, Option.bind_some]
      have hr := raised_f k (by omega)
      have hc3 : c = 0 ∨ c = 1 ∨ c = 2 := by omega
      have w0 : wrap64 (wrap64 (2 * 0) + 1) = 1 := by unfold wrap64; omega
      have w1 : wrap64 (wrap64 (2 * 1) + 1) = 3 := by unfold wrap64; omega
      have w2 : wrap64 (wrap64 (2 * 2) + 1) = 5 := by unfold wrap64; omega
      have key : ∀ n : Int, s ^ (2 * c + 1).toNat = n → impl_raised.f k s (wrap64 (wrap64 (2 * c) + 1)) = some n →
          ((impl_raised.f k s (wrap64 (wrap64 (2 * c) + 1))).bind fun t137 => (impl_areMany.f k l t137 t137 0 (wrap64 (s - 1))).bind fun t138 => some t138) = some (validB s c l) := by
        intro n h1 h2
        rw [h2]
        simp only [Option.bind_some]
        rw [many_f s n l hs hn k (by omega), validB_at s c l n hs hc h1]
        rfl
      rcases hs with rfl | rfl <;> rcases hc3 with rfl | rfl | rfl
      · exact key 2 (by decide) (by rw [w0]; exact hr.1)
      · exact key 8 (by decide) (by rw [w1]; exact hr.2.1)
      · exact key 32 (by decide) (by rw [w2]; exact hr.2.2.1)
      · exact key 3 (by decide) (by rw [w0]; exact hr.2.2.2.1)
      · exact key 27 (by decide) (by rw [w1]; exact hr.2.2.2.2.1)
      · exact key 243 (by decide) (by rw [w2]; exact hr.2.2.2.2.2)
    · rw [decide_eq_false hc]
      simp only [Bool.not_false, impl_ValidRule.j0, if_true]
      unfold validB
      rw [decide_eq_false hc]; simp
  · have h2 : ¬ s = 2 := by omega
    have h3 : (s == 3) = false := by simp; omega
    rw [if_neg h2, h3]
    simp only [Option.bind_some, Bool.false_eq_true, if_false, impl_ValidRule.j0, if_true]
    unfold validB
    rw [decide_eq_false (show ¬ (2 ≤ s ∧ s ≤ 3) by omega)]; rfl

/-- Both bounds of a whole number of 64 bits. -/
def I64 (x : Int) : Prop := -9223372036854775808 ≤ x ∧ x ≤ 9223372036854775807

open Go.Proofs.Ytcigmgocllnhfaa.Va in
theorem is_f (s c : Int) (l : List Int) (hs : I64 s) (hc : I64 c) (hn : l.length ≤ 140737488351232) (k : Nat) : spec_l02Is.f k s c l = some (validB s c l) := by
  unfold spec_l02Is.f
  rw [if_pos ⟨hs, hc, hn⟩]

theorem sz_f (s c : Int) (l : List Int) (hn : l.length ≤ 9223372036854775807) (b : Int) (hb : 0 ≤ b ∧ b ≤ 1048576) : laws_szRule.f s c l b = some (if (l.length : Int) ≤ b then b - l.length else -1) := by
  unfold laws_szRule.f laws_szInt64S.f
  have e : wrap64 (b - (l.length : Int)) = b - l.length := by unfold wrap64; omega
  rw [e]
  by_cases h : (l.length : Int) ≤ b
  · rw [if_neg (by omega), if_pos h]; simp only [Option.bind_some]; rw [if_neg (by omega)]
  · rw [if_pos (by omega), if_neg h]; rfl

theorem toRule_f (s c : Int) (l : List Int) (hn : l.length ≤ 1048576) (k : Nat) (hk : l.length < k) : laws_toRule.f k s c l = some (s, c, l) := by
  unfold laws_toRule.f
  rw [copy_f l (by omega) k hk]; rfl

theorem eqRule_f (s r : Int) (x : List Int) (hn : x.length ≤ 140737488351232) (k : Nat) (hk : x.length < k) : laws_eqRule.f k s r x s r x = some true := by
  unfold laws_eqRule.f
  rw [if_pos rfl, if_pos rfl, eq_f x hn k hk]
  rfl

/-- The digits of a number, the greatest one first. -/
def digs (s : Nat) : Nat → Nat → List Int
  | 0, _ => []
  | n + 1, x => digs s n (x / s) ++ [((x % s : Nat) : Int)]
theorem digs_len (s : Nat) : ∀ n x, (digs s n x).length = n
  | 0, _ => rfl
  | n + 1, x => by simp [digs, digs_len s n]
theorem digs_lt (s : Nat) (hs : 0 < s) : ∀ n x, ∀ y ∈ digs s n x, 0 ≤ y ∧ y ≤ (s : Int) - 1
  | 0, _ => by simp [digs]
  | n + 1, x => by
    intro y hy
    rcases List.mem_append.mp hy with h | h
    · exact digs_lt s hs n _ y h
    · have h' : y = ((x % s : Nat) : Int) := by simpa using h
      subst h'
      have := Nat.mod_lt x hs
      omega
theorem spec_digits_loop (s : Nat) (hs : s = 2 ∨ s = 3) : ∀ (n k x : Nat) (l : List Int), x ≤ 1000000 → n ≤ l.length → n ≤ 1000 → n < k → spec_l02Digits.l0 k (x : Int) (s : Int) l ((n : Int) - 1) = some (digs s n x ++ l.drop n) := by
  intro n
  induction n with
  | zero =>
    intro k x l hx hl hn hk
    obtain ⟨k, rfl⟩ : ∃ m, k = m + 1 := ⟨k - 1, by omega⟩
    simp only [spec_l02Digits.l0]
    rw [if_neg (by omega)]
    rfl
  | succ n ih =>
    intro k x l hx hl hn hk
    obtain ⟨k, rfl⟩ : ∃ m, k = m + 1 := ⟨k - 1, by omega⟩
    have ed : Int.tdiv (x : Int) (s : Int) = ((x / s : Nat) : Int) := rfl
    have em : Int.tmod (x : Int) (s : Int) = ((x % s : Nat) : Int) := rfl
    have hd : x / s ≤ x := Nat.div_le_self _ _
    have he : digs s (n + 1) x = digs s n (x / s) ++ [((x % s : Nat) : Int)] := rfl
    rw [he]
    clear he
    revert ed em hd
    generalize x / s = q
    generalize x % s = z
    intro ed em hd
    simp only [spec_l02Digits.l0]
    rw [if_pos (by omega), if_neg (by omega), if_pos (by omega), if_pos (by omega), ed, em, show wrap64 (q : Int) = (q : Int) by unfold wrap64; omega, show wrap64 (((n + 1 : Nat) : Int) - 1 - 1) = ((n : Nat) : Int) - 1 by unfold wrap64; omega, show (((n + 1 : Nat) : Int) - 1).toNat = n by omega]
    rw [ih k q (l.set n (z : Int)) (by omega) (by simp; omega) (by omega) (by omega)]
    congr 1
    rw [List.append_assoc]
    congr 1
    rw [List.drop_eq_getElem_cons (by simp; omega), List.drop_set_of_lt (by omega)]
    simp
theorem spec_digits_f (s : Nat) (hs : s = 2 ∨ s = 3) (n x k : Nat) (hx : x ≤ 1000000) (hn : n ≤ 1000) (hk : n < k) : spec_l02Digits.f k (x : Int) (s : Int) (n : Int) = some (digs s n x) := by
  unfold spec_l02Digits.f
  rw [if_pos (by omega), show ((n : Nat) : Int).toNat = n by omega, if_pos (by omega), show wrap64 ((n : Int) - 1) = (n : Int) - 1 by unfold wrap64; omega]
  rw [spec_digits_loop s hs n k x (List.replicate n 0) hx (by simp) hn hk]
  simp
theorem impl_digits_loop (s : Nat) (hs : s = 2 ∨ s = 3) : ∀ (n k x : Nat) (l : List Int), x ≤ 1000000 → n ≤ l.length → n ≤ 1000 → n < k → impl_digitsOf.l0 k (x : Int) (s : Int) l ((n : Int) - 1) = some (digs s n x ++ l.drop n) := by
  intro n
  induction n with
  | zero =>
    intro k x l hx hl hn hk
    obtain ⟨k, rfl⟩ : ∃ m, k = m + 1 := ⟨k - 1, by omega⟩
    simp only [impl_digitsOf.l0]
    rw [if_neg (by omega)]
    rfl
  | succ n ih =>
    intro k x l hx hl hn hk
    obtain ⟨k, rfl⟩ : ∃ m, k = m + 1 := ⟨k - 1, by omega⟩
    have ed : Int.tdiv (x : Int) (s : Int) = ((x / s : Nat) : Int) := rfl
    have em : Int.tmod (x : Int) (s : Int) = ((x % s : Nat) : Int) := rfl
    have hd : x / s ≤ x := Nat.div_le_self _ _
    have he : digs s (n + 1) x = digs s n (x / s) ++ [((x % s : Nat) : Int)] := rfl
    rw [he]
    clear he
    revert ed em hd
    generalize x / s = q
    generalize x % s = z
    intro ed em hd
    simp only [impl_digitsOf.l0]
    rw [if_pos (by omega), if_neg (by omega), if_pos (by omega), if_pos (by omega), ed, em, show wrap64 (q : Int) = (q : Int) by unfold wrap64; omega, show wrap64 (((n + 1 : Nat) : Int) - 1 - 1) = ((n : Nat) : Int) - 1 by unfold wrap64; omega, show (((n + 1 : Nat) : Int) - 1).toNat = n by omega]
    rw [ih k q (l.set n (z : Int)) (by omega) (by simp; omega) (by omega) (by omega)]
    congr 1
    rw [List.append_assoc]
    congr 1
    rw [List.drop_eq_getElem_cons (by simp; omega), List.drop_set_of_lt (by omega)]
    simp
theorem impl_digits_f (s : Nat) (hs : s = 2 ∨ s = 3) (n x k : Nat) (hx : x ≤ 1000000) (hn : n ≤ 1000) (hk : n < k) : impl_digitsOf.f k (x : Int) (s : Int) (n : Int) = some (digs s n x) := by
  unfold impl_digitsOf.f
  rw [if_pos (by omega), show ((n : Nat) : Int).toNat = n by omega, if_pos (by omega), show wrap64 ((n : Int) - 1) = (n : Int) - 1 by unfold wrap64; omega]
  rw [impl_digits_loop s hs n k x (List.replicate n 0) hx (by simp) hn hk]
  simp

/-- The sum of the digits. -/
def sumd (s : Nat) : Nat → Nat → Nat
  | 0, _ => 0
  | n + 1, x => sumd s n (x / s) + x % s
theorem sumd_digs (s : Nat) : ∀ n x, (digs s n x).sum = ((sumd s n x : Nat) : Int)
  | 0, _ => rfl
  | n + 1, x => by simp [digs, sumd, sumd_digs s n]
theorem sum_drop (t : List Int) (i : Nat) (h : i < t.length) : (t.drop i).sum = rd t (i : Int) + (t.drop (i + 1)).sum := by
  rw [List.drop_eq_getElem_cons h, List.sum_cons]
  congr 1
  unfold rd
  rw [List.getD_eq_getElem?_getD]
  simp [h]
theorem sum_le (t : List Int) (h : ∀ y ∈ t, 0 ≤ y ∧ y ≤ 2) : 0 ≤ t.sum ∧ t.sum ≤ 2 * t.length := by
  induction t with
  | nil => simp
  | cons a t ih =>
    have h1 := h a (by simp)
    have h2 := ih (fun y hy => h y (by simp [hy]))
    rw [List.sum_cons, List.length_cons]
    omega
theorem spec_sum_loop (t : List Int) (ht : ∀ y ∈ t, 0 ≤ y ∧ y ≤ 2) (hl : t.length ≤ 1000) (d : Nat) : ∀ (k i : Nat) (a : Int), i + d = t.length → 0 ≤ a → a ≤ 2 * i → d < k → spec_l02Sum.l0 k t a (i : Int) = some (a + (t.drop i).sum) := by
  induction d with
  | zero =>
    intro k i a hi h0 h1 hk
    obtain ⟨k, rfl⟩ : ∃ m, k = m + 1 := ⟨k - 1, by omega⟩
    simp only [spec_l02Sum.l0]
    rw [if_neg (by omega), List.drop_eq_nil_of_le (by omega)]
    simp
  | succ d ih =>
    intro k i a hi h0 h1 hk
    obtain ⟨k, rfl⟩ : ∃ m, k = m + 1 := ⟨k - 1, by omega⟩
    have hm : rd t (i : Int) ∈ t := by
      have : rd t (i : Int) = t[i]'(by omega) := by
        unfold rd; rw [List.getD_eq_getElem?_getD]; simp [show i < t.length by omega]
      rw [this]; exact List.getElem_mem _
    have hb := ht _ hm
    simp only [spec_l02Sum.l0]
    rw [if_pos (by omega), if_pos (by omega), show wrap64 (a + rd t (i : Int)) = a + rd t (i : Int) by unfold wrap64; omega, show wrap64 ((i : Int) + 1) = ((i + 1 : Nat) : Int) by unfold wrap64; omega]
    rw [ih k (i + 1) _ (by omega) (by omega) (by omega) (by omega), sum_drop t i (by omega)]
    congr 1; omega
theorem impl_sum_loop (t : List Int) (ht : ∀ y ∈ t, 0 ≤ y ∧ y ≤ 2) (hl : t.length ≤ 1000) (d : Nat) : ∀ (k i : Nat) (a : Int), i + d = t.length → 0 ≤ a → a ≤ 2 * i → d < k → impl_sumOf.l0 k a t (t.length : Int) (i : Int) = some (a + (t.drop i).sum) := by
  induction d with
  | zero =>
    intro k i a hi h0 h1 hk
    obtain ⟨k, rfl⟩ : ∃ m, k = m + 1 := ⟨k - 1, by omega⟩
    simp only [impl_sumOf.l0]
    rw [if_neg (by omega), List.drop_eq_nil_of_le (by omega)]
    simp
  | succ d ih =>
    intro k i a hi h0 h1 hk
    obtain ⟨k, rfl⟩ : ∃ m, k = m + 1 := ⟨k - 1, by omega⟩
    have hm : rd t (i : Int) ∈ t := by
      have : rd t (i : Int) = t[i]'(by omega) := by
        unfold rd; rw [List.getD_eq_getElem?_getD]; simp [show i < t.length by omega]
      rw [this]; exact List.getElem_mem _
    have hb := ht _ hm
    simp only [impl_sumOf.l0]
    rw [if_pos (by omega), if_pos (by omega), if_pos (by omega), show wrap64 (a + rd t (i : Int)) = a + rd t (i : Int) by unfold wrap64; omega, show wrap64 ((i : Int) + 1) = ((i + 1 : Nat) : Int) by unfold wrap64; omega]
    rw [ih k (i + 1) _ (by omega) (by omega) (by omega) (by omega), sum_drop t i (by omega)]
    congr 1; omega

theorem sumd_le (s : Nat) (hs : s = 2 ∨ s = 3) (n : Nat) : ∀ x, sumd s n x ≤ n * (s - 1) := by
  induction n with
  | zero => intro x; simp [sumd]
  | succ n ih =>
    intro x
    have h1 := ih (x / s)
    have h2 : x % s < s := Nat.mod_lt _ (by omega)
    show sumd s n (x / s) + x % s ≤ (n + 1) * (s - 1)
    generalize sumd s n (x / s) = a at h1 ⊢
    rcases hs with rfl | rfl <;> omega
theorem sumd_cov (s : Nat) (hs : s = 2 ∨ s = 3) (n : Nat) : ∀ v, v ≤ n * (s - 1) → ∃ x, x < s ^ n ∧ sumd s n x = v := by
  induction n with
  | zero => intro v hv; exact ⟨0, by simp, by simp at hv; simp [sumd, hv]⟩
  | succ n ih =>
    intro v hv
    obtain ⟨c, hc⟩ : ∃ c, c = min v (s - 1) := ⟨_, rfl⟩
    obtain ⟨x, h1, h2⟩ := ih (v - c) (by rcases hs with rfl | rfl <;> omega)
    refine ⟨x * s + c, ?_, ?_⟩
    · rw [Nat.pow_succ]
      rcases hs with rfl | rfl <;> omega
    · show sumd s n ((x * s + c) / s) + (x * s + c) % s = v
      have e1 : (x * s + c) / s = x := by rcases hs with rfl | rfl <;> omega
      have e2 : (x * s + c) % s = c := by rcases hs with rfl | rfl <;> omega
      rw [e1, e2, h2]; omega

structure SumFacts (s long : Nat) : Prop where
  hs : s = 2 ∨ s = 3
  hl : long ≤ 5
  hp : s ^ long ≤ 243
  le : ∀ x, x < s ^ long → sumd s long x < long * (s - 1) + 1
  cov : ∀ v, v < long * (s - 1) + 1 → ∃ x, x < s ^ long ∧ sumd s long x = v
  pw : spec_l02Powers.f 12 (s : Int) (long : Int) = some ((s ^ long : Nat) : Int)
  ra : impl_raised.f 12 (s : Int) (long : Int) = some ((s ^ long : Nat) : Int)

theorem sumFacts21 : SumFacts 2 1 := ⟨by decide, by decide, by decide, fun x _ => Nat.lt_succ_of_le (sumd_le _ (by first | exact Or.inl rfl | exact Or.inr rfl) _ x), fun v hv => sumd_cov _ (by first | exact Or.inl rfl | exact Or.inr rfl) _ v (Nat.le_of_lt_succ hv), by decide +kernel, by decide +kernel⟩
theorem sumFacts23 : SumFacts 2 3 := ⟨by decide, by decide, by decide, fun x _ => Nat.lt_succ_of_le (sumd_le _ (by first | exact Or.inl rfl | exact Or.inr rfl) _ x), fun v hv => sumd_cov _ (by first | exact Or.inl rfl | exact Or.inr rfl) _ v (Nat.le_of_lt_succ hv), by decide +kernel, by decide +kernel⟩
theorem sumFacts25 : SumFacts 2 5 := ⟨by decide, by decide, by decide, fun x _ => Nat.lt_succ_of_le (sumd_le _ (by first | exact Or.inl rfl | exact Or.inr rfl) _ x), fun v hv => sumd_cov _ (by first | exact Or.inl rfl | exact Or.inr rfl) _ v (Nat.le_of_lt_succ hv), by decide +kernel, by decide +kernel⟩
theorem sumFacts31 : SumFacts 3 1 := ⟨by decide, by decide, by decide, fun x _ => Nat.lt_succ_of_le (sumd_le _ (by first | exact Or.inl rfl | exact Or.inr rfl) _ x), fun v hv => sumd_cov _ (by first | exact Or.inl rfl | exact Or.inr rfl) _ v (Nat.le_of_lt_succ hv), by decide +kernel, by decide +kernel⟩
theorem sumFacts33 : SumFacts 3 3 := ⟨by decide, by decide, by decide, fun x _ => Nat.lt_succ_of_le (sumd_le _ (by first | exact Or.inl rfl | exact Or.inr rfl) _ x), fun v hv => sumd_cov _ (by first | exact Or.inl rfl | exact Or.inr rfl) _ v (Nat.le_of_lt_succ hv), by decide +kernel, by decide +kernel⟩
theorem sumFacts35 : SumFacts 3 5 := ⟨by decide, by decide, by decide, fun x _ => Nat.lt_succ_of_le (sumd_le _ (by first | exact Or.inl rfl | exact Or.inr rfl) _ x), fun v hv => sumd_cov _ (by first | exact Or.inl rfl | exact Or.inr rfl) _ v (Nat.le_of_lt_succ hv), by decide +kernel, by decide +kernel⟩
theorem sumFacts (s r : Nat) (hs : s = 2 ∨ s = 3) (hr : r = 0 ∨ r = 1 ∨ r = 2) : SumFacts s (2 * r + 1) := by
  rcases hs with rfl | rfl <;> rcases hr with rfl | rfl | rfl
  · exact sumFacts21
  · exact sumFacts23
  · exact sumFacts25
  · exact sumFacts31
  · exact sumFacts33
  · exact sumFacts35
theorem pow_small (s r : Nat) (hs : s = 2 ∨ s = 3) (hr : r = 0 ∨ r = 1 ∨ r = 2) : s ^ (2 * r + 1) ≤ 243 := by
  rcases hs with rfl | rfl <;> rcases hr with rfl | rfl | rfl <;> decide

theorem SumFacts.small {s long : Nat} (F : SumFacts s long) (x : Nat) : ∀ y ∈ digs s long x, 0 ≤ y ∧ y ≤ 2 := by
  intro y hy
  have := digs_lt s (by have := F.hs; omega) long x y hy
  have := F.hs
  omega
theorem SumFacts.sp' {s long : Nat} (F : SumFacts s long) (x : Nat) (hx : x < s ^ long) : ∃ t, (∀ k, 12 ≤ k → spec_l02Digits.f k (x : Int) (s : Int) (long : Int) = some t) ∧ ∀ k, 12 ≤ k → spec_l02Sum.f k t = some ((sumd s long x : Nat) : Int) := by
  have hp := F.hp
  have hl := F.hl
  refine ⟨digs s long x, fun k hk => spec_digits_f s F.hs long x k (by omega) (by omega) (by omega), fun k hk => ?_⟩
  unfold spec_l02Sum.f
  have h := spec_sum_loop (digs s long x) (F.small x) (by rw [digs_len]; omega) long k 0 0 (by rw [digs_len]; omega) (by omega) (by omega) (by omega)
  rw [show ((0 : Nat) : Int) = 0 from rfl] at h
  rw [h, List.drop_zero, sumd_digs]; simp
theorem SumFacts.im' {s long : Nat} (F : SumFacts s long) (x : Nat) (hx : x < s ^ long) : ∃ t, (∀ k, 12 ≤ k → impl_digitsOf.f k (x : Int) (s : Int) (long : Int) = some t) ∧ ∀ k, 12 ≤ k → impl_sumOf.f k t = some ((sumd s long x : Nat) : Int) := by
  have hp := F.hp
  have hl := F.hl
  refine ⟨digs s long x, fun k hk => impl_digits_f s F.hs long x k (by omega) (by omega) (by omega), fun k hk => ?_⟩
  unfold impl_sumOf.f
  have h := impl_sum_loop (digs s long x) (F.small x) (by rw [digs_len]; omega) long k 0 0 (by rw [digs_len]; omega) (by omega) (by omega) (by omega)
  rw [show ((0 : Nat) : Int) = 0 from rfl] at h
  rw [h, List.drop_zero, sumd_digs]; simp

end FnExactIsTotalParts
open FnExactIsTotalParts

theorem fill (L s c : Int) (tb : List Int) : ∀ (d i : Nat) (xs : List Int), i + d = xs.length → xs.length ≤ 1000 → (∀ j : Nat, j < i → rd xs (j : Int) = -1) →
    ∃ xs' : List Int, xs'.length = xs.length ∧ (∀ j : Nat, j < xs.length → rd xs' (j : Int) = -1) ∧ ∀ m, spec_IsTotal.l0 (m + d + 1) L xs (i : Int) s c tb = spec_IsTotal.l1 m L xs' 0 s c tb := by
  intro d
  induction d with
  | zero =>
    intro i xs hi hl hj
    have q1 : ¬ (i : Int) < (xs.length : Int) := by omega
    refine ⟨xs, rfl, fun j h => hj j (by omega), fun m => ?_⟩
    show spec_IsTotal.l0 (m + 1) L xs (i : Int) s c tb = _
    simp only [spec_IsTotal.l0]
    rw [if_neg q1]
  | succ d ih =>
    intro i xs hi hl hj
    have q1 : (i : Int) < (xs.length : Int) := by omega
    have q2 : 0 ≤ (i : Int) := Int.natCast_nonneg i
    have e1 : wrap64 ((i : Int) + 1) = ((i + 1 : Nat) : Int) := by unfold wrap64; omega
    obtain ⟨xs', h1, h2, h3⟩ := ih (i + 1) (xs.set i (-1)) (by rw [List.length_set]; omega) (by rw [List.length_set]; exact hl) (fun j hlt => by
      by_cases e : j = i
      · subst e; exact Go.Proofs.Ytcigmgocllnhfaa.Mp.rd_set_same xs j (by omega) _
      · rw [Go.Proofs.Ytcigmgocllnhfaa.Mp.rd_set_other xs i j e]; exact hj j (by omega))
    rw [List.length_set] at h1 h2
    refine ⟨xs', h1, h2, fun m => ?_⟩
    show spec_IsTotal.l0 ((m + d + 1) + 1) L xs (i : Int) s c tb = _
    have g := h3 m
    generalize m + d + 1 = K at g ⊢
    simp only [spec_IsTotal.l0]
    rw [if_pos q1, if_pos q2, show ((i : Nat) : Int).toNat = i from rfl, e1]
    exact g
theorem total_loops (S L N n0 : Nat) (c : Int) (tb : List Int) (hN : N ≤ 243) (htb : tb.length = N) (hn0 : n0 ≤ 11) (hcells : impl_Rule_cells.f (S : Int) c tb = some (L : Int)) (sm : Nat → Nat) (hsm : ∀ x, x < N → sm x < n0)
    (hsp : ∀ x, x < N → ∃ t, (∀ k, 12 ≤ k → spec_l02Digits.f k (x : Int) (S : Int) (L : Int) = some t) ∧ ∀ k, 12 ≤ k → spec_l02Sum.f k t = some ((sm x : Nat) : Int))
    (him : ∀ x, x < N → ∃ t, (∀ k, 12 ≤ k → impl_digitsOf.f k (x : Int) (S : Int) (L : Int) = some t) ∧ ∀ k, 12 ≤ k → impl_sumOf.f k t = some ((sm x : Nat) : Int)) : ∀ (d x k : Nat) (xs xi : List Int), x + d = N → d + 14 < k → xs.length = n0 → xi.length = 11 → (∀ j : Nat, j < n0 → rd xs (j : Int) = rd xi (j : Int)) →
    ∃ b1 b2 : Bool, spec_IsTotal.l1 k (L : Int) xs (x : Int) (S : Int) c tb = some (b1, b2) ∧ impl_IsTotal.l0 k xi tb (tb.length : Int) (x : Int) (S : Int) c tb = some (b1, b2) := by
  intro d
  induction d with
  | zero =>
    intro x k xs xi hx hk h1 h2 h3
    obtain ⟨k, rfl⟩ : ∃ m, k = m + 1 := ⟨k - 1, by omega⟩
    have q1 : ¬ (x : Int) < (tb.length : Int) := by omega
    refine ⟨true, true, ?_, ?_⟩
    · simp only [spec_IsTotal.l1]; rw [if_neg q1]
    · simp only [impl_IsTotal.l0]; rw [if_neg q1]
  | succ d ih =>
    intro x k xs xi hx hk h1 h2 h3
    obtain ⟨k, rfl⟩ : ∃ m, k = m + 1 := ⟨k - 1, by omega⟩
    have hxN : x < N := by omega
    have q1 : (x : Int) < (tb.length : Int) := by omega
    have q2 : 0 ≤ (x : Int) := Int.natCast_nonneg x
    have e1 : wrap64 ((x : Int) + 1) = ((x + 1 : Nat) : Int) := by unfold wrap64; omega
    obtain ⟨t, a1, a2⟩ := hsp x hxN
    obtain ⟨t', b1, b2⟩ := him x hxN
    have hs := hsm x hxN
    obtain ⟨m, hm⟩ : ∃ m, m = sm x := ⟨_, rfl⟩
    rw [← hm] at a2 b2 hs
    have g1 := a1 k (by omega)
    have g2 := a2 k (by omega)
    have g3 := b1 k (by omega)
    have g4 := b2 k (by omega)
    have q3 : 0 ≤ (m : Int) := Int.natCast_nonneg m
    have q4 : (m : Int) < (xs.length : Int) := by omega
    have q5 : (m : Int) < (xi.length : Int) := by omega
    have hr := h3 m hs
    obtain ⟨c1, c2, f1, f2⟩ := ih (x + 1) k (xs.set m (rd tb (x : Int))) (xi.set m (rd tb (x : Int))) (by omega) (by omega) (by rw [List.length_set]; exact h1) (by rw [List.length_set]; exact h2) (fun j hj => by
      by_cases e : j = m
      · subst e
        rw [Go.Proofs.Ytcigmgocllnhfaa.Mp.rd_set_same xs j (by omega), Go.Proofs.Ytcigmgocllnhfaa.Mp.rd_set_same xi j (by omega)]
      · rw [Go.Proofs.Ytcigmgocllnhfaa.Mp.rd_set_other xs m j e, Go.Proofs.Ytcigmgocllnhfaa.Mp.rd_set_other xi m j e]; exact h3 j hj)
    by_cases hp : rd xi (m : Int) ≥ 0
    · by_cases he : rd xi (m : Int) = rd tb (x : Int)
      · refine ⟨c1, c2, ?_, ?_⟩
        · simp only [spec_IsTotal.l1]
          rw [if_pos q1, g1]
          simp only [Option.bind_some]
          rw [g2]
          simp only [Option.bind_some]
          rw [if_pos q3, if_pos q4, hr, if_pos hp, if_pos q2, if_pos he, show ((m : Nat) : Int).toNat = m from rfl, e1]
          exact f1
        · simp only [impl_IsTotal.l0]
          rw [if_pos q1, if_pos q2, if_pos q1, hcells]
          simp only [Option.bind_some]
          rw [g3]
          simp only [Option.bind_some]
          rw [g4]
          simp only [Option.bind_some]
          rw [if_pos q3, if_pos q5, if_pos hp, if_pos he, show ((m : Nat) : Int).toNat = m from rfl, e1]
          exact f2
      · refine ⟨false, true, ?_, ?_⟩
        · simp only [spec_IsTotal.l1]
          rw [if_pos q1, g1]
          simp only [Option.bind_some]
          rw [g2]
          simp only [Option.bind_some]
          rw [if_pos q3, if_pos q4, hr, if_pos hp, if_pos q2, if_neg he]
        · simp only [impl_IsTotal.l0]
          rw [if_pos q1, if_pos q2, if_pos q1, hcells]
          simp only [Option.bind_some]
          rw [g3]
          simp only [Option.bind_some]
          rw [g4]
          simp only [Option.bind_some]
          rw [if_pos q3, if_pos q5, if_pos hp, if_neg he]
    · refine ⟨c1, c2, ?_, ?_⟩
      · simp only [spec_IsTotal.l1]
        rw [if_pos q1, g1]
        simp only [Option.bind_some]
        rw [g2]
        simp only [Option.bind_some]
        rw [if_pos q3, if_pos q4, hr, if_neg hp, if_pos q2, show ((m : Nat) : Int).toNat = m from rfl, e1]
        exact f1
      · simp only [impl_IsTotal.l0]
        rw [if_pos q1, if_pos q2, if_pos q1, hcells]
        simp only [Option.bind_some]
        rw [g3]
        simp only [Option.bind_some]
        rw [g4]
        simp only [Option.bind_some]
        rw [if_pos q3, if_pos q5, if_neg hp, show ((m : Nat) : Int).toNat = m from rfl, e1]
        exact f2
theorem wB (A : Nat) (h : A ≤ 2) : wrap64 (wrap64 (2 * (A : Int)) + 1) = ((2 * A + 1 : Nat) : Int) := by unfold wrap64; omega
theorem size_facts (S C : Nat) (hS : S = 2 ∨ S = 3) (hC : C = 0 ∨ C = 1 ∨ C = 2) : wrap64 (wrap64 (((2 * C + 1 : Nat) : Int) * wrap64 ((S : Int) - 1)) + 1) = (((2 * C + 1) * (S - 1) + 1 : Nat) : Int) ∧ (2 * C + 1) * (S - 1) + 1 ≤ 11 := by
  rcases hS with rfl | rfl <;> rcases hC with rfl | rfl | rfl <;> exact ⟨by decide +kernel, by decide⟩
theorem eleven : ∀ j : Nat, j < 11 → rd [-1, -1, -1, -1, -1, -1, -1, -1, -1, -1, -1] (j : Int) = -1 := by decide
theorem okT_of (S : Nat) (l : List Int) (hS : S = 2 ∨ S = 3) (hl : l.length ≤ 243) (h : Go.Proofs.Ytcigmgocllnhfaa.Va.rowB (S : Int) l = true) : Go.Proofs.Ytcigmgocllnhfaa.Mp.okT l = true := by
  unfold Go.Proofs.Ytcigmgocllnhfaa.Mp.okT
  unfold Go.Proofs.Ytcigmgocllnhfaa.Va.rowB at h
  rw [decide_eq_true hl, Bool.true_and, List.all_eq_true]
  intro y hy
  have := of_decide_eq_true (List.all_eq_true.mp h y hy)
  exact decide_eq_true (by omega)
theorem istotal_loops (S C : Nat) (l : List Int) (hS : S = 2 ∨ S = 3) (hC : C = 0 ∨ C = 1 ∨ C = 2) (hl : l.length = S ^ (2 * C + 1)) (k : Nat) (hk : 300 < k) :
    ∃ b1 b2 : Bool, (if 0 ≤ wrap64 (wrap64 (((2 * C + 1 : Nat) : Int) * wrap64 ((S : Int) - 1)) + 1) then (if (wrap64 (wrap64 (((2 * C + 1 : Nat) : Int) * wrap64 ((S : Int) - 1)) + 1) : Int).toNat ≤ 35184372088832 then spec_IsTotal.l0 k ((2 * C + 1 : Nat) : Int) (List.replicate (wrap64 (wrap64 (((2 * C + 1 : Nat) : Int) * wrap64 ((S : Int) - 1)) + 1) : Int).toNat 0) 0 (S : Int) (C : Int) l else none) else none) = some (b1, b2) ∧
      impl_IsTotal.l0 k [-1, -1, -1, -1, -1, -1, -1, -1, -1, -1, -1] l (l.length : Int) 0 (S : Int) (C : Int) l = some (b1, b2) := by
  obtain ⟨p1, p2⟩ := size_facts S C hS hC
  have F := sumFacts S C hS hC
  have hp := F.hp
  have hle := F.le
  have hsp := F.sp'
  have him := F.im'
  have hcells : impl_Rule_cells.f (S : Int) (C : Int) l = some ((2 * C + 1 : Nat) : Int) := by unfold impl_Rule_cells.f; rw [wB C (by clear p1 p2 hl hp hle hsp him F; omega)]
  rw [p1]
  clear p1 F
  generalize S ^ (2 * C + 1) = N at hp hle hsp him hl
  generalize 2 * C + 1 = L at p2 hle hsp him hcells ⊢
  generalize L * (S - 1) + 1 = n0 at p2 hle ⊢
  obtain ⟨xs, f1, f2, f3⟩ := fill (L : Int) (S : Int) (C : Int) l n0 0 (List.replicate n0 0) (by rw [List.length_replicate, Nat.zero_add]) (by rw [List.length_replicate]; omega) (fun j hj => absurd hj (Nat.not_lt_zero j))
  rw [List.length_replicate] at f1 f2
  obtain ⟨m, rfl⟩ : ∃ m, k = m + n0 + 1 := ⟨k - n0 - 1, by omega⟩
  obtain ⟨b1, b2, g1, -⟩ := total_loops S L N n0 (C : Int) l hp hl p2 hcells (sumd S L) hle hsp him N 0 m xs [-1, -1, -1, -1, -1, -1, -1, -1, -1, -1, -1] (Nat.zero_add _) (by omega) f1 rfl (fun j hj => by rw [f2 j hj, eleven j (by omega)])
  obtain ⟨c1, c2, h1, h2⟩ := total_loops S L N n0 (C : Int) l hp hl p2 hcells (sumd S L) hle hsp him N 0 (m + n0 + 1) xs [-1, -1, -1, -1, -1, -1, -1, -1, -1, -1, -1] (Nat.zero_add _) (by omega) f1 rfl (fun j hj => by rw [f2 j hj, eleven j (by omega)])
  have e := at_rounds (fun k => (spec_IsTotal.mono_l k).2 (L : Int) xs ((0 : Nat) : Int) (S : Int) (C : Int) l) (show m ≤ m + n0 + 1 by omega) g1
  rw [h1] at e
  refine ⟨c1, c2, ?_, h2⟩
  rw [if_pos (Int.natCast_nonneg _), show ((n0 : Nat) : Int).toNat = n0 from rfl, if_pos (by omega)]
  have g := f3 m
  rw [show ((0 : Nat) : Int) = 0 from rfl] at g g1
  rw [g, g1]
  exact e.symm
open Go.Proofs.Ytcigmgocllnhfaa.Va in
theorem istotal_same (s c : Int) (l : List Int) (hs : I64 s) (hc : I64 c) (hn : l.length ≤ 140737488351232) (k : Nat) (hk : l.length + 400 < k) :
    ∃ v b, spec_IsTotal.f k s c l = some (v, b) ∧ impl_IsTotal.f k s c l = some (v, b) := by
  unfold spec_IsTotal.f impl_IsTotal.f
  rw [is_f s c l hs hc hn, valid_f s c l hn _ (by omega)]
  simp only [Option.bind_some]
  cases hv : validB s c l with
  | false => exact ⟨_, _, rfl, rfl⟩
  | true =>
    unfold validB at hv
    simp only [Bool.and_eq_true, decide_eq_true_eq] at hv
    obtain ⟨hs2, hc2, hl, hr⟩ := hv
    obtain ⟨S, rfl⟩ : ∃ S : Nat, s = S := ⟨s.toNat, by clear hl; omega⟩
    obtain ⟨C, rfl⟩ : ∃ C : Nat, c = C := ⟨c.toNat, by clear hl; omega⟩
    rw [show (2 * (C : Int) + 1).toNat = 2 * C + 1 by clear hl; omega] at hl
    have hS : S = 2 ∨ S = 3 := by clear hl; omega
    have hC : C = 0 ∨ C = 1 ∨ C = 2 := by clear hl; omega
    have hlN : l.length = S ^ (2 * C + 1) := Int.ofNat.inj (hl.trans (Int.natCast_pow _ _).symm)
    have hok := okT_of S l hS (by rw [hlN]; exact (sumFacts S C hS hC).hp) hr
    obtain ⟨b1, b2, h1, h2⟩ := istotal_loops S C l hS hC hlN k (by clear hl hlN; omega)
    simp only [if_true]
    rw [wB C (by clear hl hlN; omega), if_pos hok]
    exact ⟨b1, b2, h1, h2⟩
theorem FnExactIsTotal (s c : Int) (l : List Int) (hs : I64 s) (hc : I64 c) (hn : l.length ≤ 9223372036854775807) : ∃ k, laws_FnExactIsTotal.f k s c l = some true := by
  refine ⟨l.length + 500, ?_⟩
  unfold laws_FnExactIsTotal.f
  rw [sz_f s c l hn 1048576 (by omega)]
  simp only [Option.bind_some]
  by_cases h : (l.length : Int) ≤ 1048576
  · obtain ⟨v, b, h1, h2⟩ := istotal_same s c l hs hc (by omega) (l.length + 500) (by omega)
    rw [if_pos h, if_neg (by omega), toRule_f s c l (by omega) _ (by omega)]
    simp only [Option.bind_some, h1, h2, if_true, bne_self_eq_false]
    rw [show l.length + 500 = (l.length + 499) + 1 from rfl]
    simp only [laws_FnExactIsTotal.j0, Bool.false_eq_true, if_false]
    rw [toRule_f s c l (by omega) _ (by omega)]
    simp only [Option.bind_some]
    rw [eqRule_f s c l (by omega) _ (by omega)]
    rfl
  · rw [if_neg h, if_pos (by omega)]

end Go.Proofs.Ytcigmgocllnhfaa.Pure
