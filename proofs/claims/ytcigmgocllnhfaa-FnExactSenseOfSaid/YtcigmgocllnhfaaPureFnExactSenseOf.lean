/- The plain law of FnExactSenseOf, over the functions beside: program and reference answer alike. No condition beyond the stated bounds. -/
import Derived.Test.YtcigmgocllnhfaaQFnExactSenseOfx6
namespace Go.Proofs.Ytcigmgocllnhfaa.Pure
open Go.RowKit Go.Proofs.Ytcigmgocllnhfaa.QFnExactSenseOf Go.Proofs.YtcigmgocllnhfaaW.PrintWords Go.Proofs.YtcigmgocllnhfaaW.PrintLast
set_option linter.unusedSimpArgs false
set_option linter.unusedVariables false

namespace FnExactSenseOfParts
theorem eq_loop (x0 : List Int) (hn : x0.length ≤ 140737488351232) (d : Nat) : ∀ (k : Nat) (i : Int), 0 ≤ i → (x0.length : Int) - i = d → d < k → laws_eqInt64S.l0 k x0 x0 i = some true := by
  induction d with
  | zero =>
    intro k i h0 hd hk
    obtain ⟨k, rfl⟩ : ∃ m, k = m + 1 := ⟨k - 1, by omega⟩
    simp only [laws_eqInt64S.l0]
    rw [if_neg (by omega)]
  | succ d ih =>
    intro k i h0 hd hk
    obtain ⟨k, rfl⟩ : ∃ m, k = m + 1 := ⟨k - 1, by omega⟩
    simp only [laws_eqInt64S.l0]
    rw [if_pos (by omega), if_pos h0, if_pos (by omega), if_pos trivial, show wrap64 (i + 1) = i + 1 by unfold wrap64; omega]
    exact ih k (i + 1) (by omega) (by omega) (by omega)

theorem eq_f (x0 : List Int) (hn : x0.length ≤ 140737488351232) (k : Nat) (hk : x0.length < k) : laws_eqInt64S.f k x0 x0 = some true := by
  unfold laws_eqInt64S.f
  rw [if_pos rfl]
  exact eq_loop x0 hn x0.length k 0 (by omega) (by omega) hk

theorem rd_get (x : List Int) (i : Int) (h0 : 0 ≤ i) (h : i < (x.length : Int)) : x[i.toNat]? = some (rd x i) := by
  unfold rd
  rw [List.getD_eq_getElem?_getD, List.getElem?_eq_getElem (by omega)]
  rfl

theorem wrap_up {i : Int} {n : Nat} (h0 : 0 ≤ i) (h : i < (n : Int)) (hn : n ≤ 140737488351232) : wrap64 (i + 1) = i + 1 := by
  unfold wrap64; omega

theorem copy_loop (x0 : List Int) (hn : x0.length ≤ 140737488351232) (d : Nat) : ∀ (k : Nat) (x3 : List Int) (i : Int), 0 ≤ i → (x0.length : Int) - i = d → x3.length = x0.length →
    (∀ j : Nat, (j : Int) < i → x3[j]? = x0[j]?) → d < k → laws_toInt64S.l0 k x0 x3 i = some x0 := by
  induction d with
  | zero =>
    intro k x3 i h0 hd hl hj hk
    obtain ⟨k, rfl⟩ : ∃ m, k = m + 1 := ⟨k - 1, by omega⟩
    simp only [laws_toInt64S.l0]
    rw [if_neg (by omega)]
    congr 1
    apply List.ext_getElem?
    intro j
    by_cases h : (j : Int) < i
    · exact hj j h
    · rw [List.getElem?_eq_none (by omega), List.getElem?_eq_none (by omega)]
  | succ d ih =>
    intro k x3 i h0 hd hl hj hk
    obtain ⟨k, rfl⟩ : ∃ m, k = m + 1 := ⟨k - 1, by omega⟩
    simp only [laws_toInt64S.l0]
    rw [if_pos (by omega), if_pos h0, if_pos (by omega), wrap_up (n := x0.length) h0 (by omega) hn]
    refine ih k _ (i + 1) (by omega) (by omega) (by simpa using hl) ?_ (by omega)
    intro j hlt
    rw [List.getElem?_set]
    by_cases h : i.toNat = j
    · subst h
      rw [if_pos rfl, if_pos (by omega), rd_get x0 i h0 (by omega)]
    · rw [if_neg h]
      exact hj j (by omega)

theorem copy_f (x0 : List Int) (hn : x0.length * 8 ≤ 140737488351232) (k : Nat) (hk : x0.length < k) : laws_toInt64S.f k x0 = some x0 := by
  unfold laws_toInt64S.f
  rw [if_pos (by omega), if_pos (by omega)]
  exact copy_loop x0 (by omega) x0.length k _ 0 (by omega) (by omega) (by simp) (by intro j h; omega) hk

theorem in_f (a b c : Int) : spec_l00In.f a b c = some (decide (b ≤ a ∧ a ≤ c)) := by
  unfold spec_l00In.f
  by_cases h : a ≥ b
  · rw [if_pos h]; simp; omega
  · rw [if_neg h]; simp; omega

theorem within_f (a b c : Int) : impl_within.f a b c = some (decide (b ≤ a ∧ a ≤ c)) := by
  unfold impl_within.f
  by_cases h : a ≥ b
  · rw [if_pos h]; simp; omega
  · rw [if_neg h]; simp; omega


open Go.Proofs.Ytcigmgocllnhfaa.Va in
theorem areWithin_f (x : List Int) (hn : x.length ≤ 140737488351232) (t : Int) (d : Nat) : ∀ (k : Nat) (i : Nat), x.length - i = d → i ≤ x.length → d < k →
    impl_areWithin.l0 k 0 (t - 1) x x.length (i : Int) = some (rowB t (x.drop i)) := by
  induction d with
  | zero =>
    intro k i hd hi hk
    obtain ⟨k, rfl⟩ : ∃ m, k = m + 1 := ⟨k - 1, by omega⟩
    simp only [impl_areWithin.l0]
    rw [if_neg (by omega), show i = x.length by omega, List.drop_length]
    rfl
  | succ d ih =>
    intro k i hd hi hk
    obtain ⟨k, rfl⟩ : ∃ m, k = m + 1 := ⟨k - 1, by omega⟩
    simp only [impl_areWithin.l0, if_pos (show (i : Int) < (x.length : Int) by omega), if_pos (show 0 ≤ (i : Int) by omega), within_f, Option.bind_some, show wrap64 ((i : Int) + 1) = ((i + 1 : Nat) : Int) by unfold wrap64; omega]
    rw [rowB_drop t x i (by omega)]
    cases hb : decide (0 ≤ rd x (i : Int) ∧ rd x (i : Int) ≤ t - 1) with
    | true => simp only [if_true, Bool.true_and]; exact ih k (i + 1) (by omega) (by omega) (by omega)
    | false => simp only [Bool.false_eq_true, if_false, Bool.false_and]

theorem raised_f (k : Nat) (hk : 8 ≤ k) : impl_raised.f k 2 1 = some 2 ∧ impl_raised.f k 2 3 = some 8 ∧ impl_raised.f k 2 5 = some 32 ∧ impl_raised.f k 3 1 = some 3 ∧ impl_raised.f k 3 3 = some 27 ∧ impl_raised.f k 3 5 = some 243 := by
  obtain ⟨k, rfl⟩ : ∃ m, k = m + 8 := ⟨k - 8, by omega⟩
  refine ⟨?_, ?_, ?_, ?_, ?_, ?_⟩ <;> simp [impl_raised.f, impl_raised.l0, wrap64]

open Go.Proofs.Ytcigmgocllnhfaa.Va in
theorem validB_at (s c : Int) (l : List Int) (n : Int) (hs : s = 2 ∨ s = 3) (hc : 0 ≤ c ∧ c ≤ 2) (hn : s ^ (2 * c + 1).toNat = n) : validB s c l = (decide ((l.length : Int) = n) && rowB s l) := by
  unfold validB
  rw [decide_eq_true (show 2 ≤ s ∧ s ≤ 3 by omega), decide_eq_true hc, hn]; rfl

open Go.Proofs.Ytcigmgocllnhfaa.Va in
theorem many_f (s n : Int) (l : List Int) (hs : s = 2 ∨ s = 3) (hn : l.length ≤ 140737488351232) (k : Nat) (hk : l.length < k) : impl_areMany.f k l n n 0 (wrap64 (s - 1)) = some (decide ((l.length : Int) = n) && rowB s l) := by
  have e : wrap64 (s - 1) = s - 1 := by unfold wrap64; omega
  unfold impl_areMany.f impl_areWithin.f
  rw [within_f, e]
  simp only [Option.bind_some]
  have h := areWithin_f l hn s l.length k 0 (by omega) (by omega) hk
  rw [List.drop_zero] at h
  by_cases hl : (l.length : Int) = n
  · rw [decide_eq_true (show n ≤ (l.length : Int) ∧ (l.length : Int) ≤ n by omega), decide_eq_true hl]
    simp only [if_true, Bool.true_and]
    rw [show ((0 : Nat) : Int) = 0 from rfl] at h
    rw [h]; rfl
  · rw [decide_eq_false (show ¬ (n ≤ (l.length : Int) ∧ (l.length : Int) ≤ n) by omega), decide_eq_false hl]
    simp only [Bool.false_eq_true, if_false, Bool.false_and]

open Go.Proofs.Ytcigmgocllnhfaa.Va in
theorem valid_f (s c : Int) (l : List Int) (hn : l.length ≤ 140737488351232) (k : Nat) (hk : l.length + 10 < k) : impl_ValidRule.f k s c l = some (validB s c l) := by
  obtain ⟨k, rfl⟩ : ∃ m, k = m + 1 := ⟨k - 1, by omega⟩
  unfold impl_ValidRule.f impl_areStates.f impl_isReach.f
  rw [within_f]
  by_cases hs : s = 2 ∨ s = 3
  · have e2 : (if s = 2 then some true else some (s == 3)) = some true := by rcases hs with rfl | rfl <;> rfl
    rw [e2]
    simp only [Option.bind_some, if_true]
    by_cases hc : 0 ≤ c ∧ c ≤ 2
    · rw [decide_eq_true hc]
      simp only [Bool.not_true, impl_ValidRule.j0, Bool.false_eq_true, if_false, impl_Rule_cells.f, Option.bind_some]
      have hr := raised_f k (by omega)
      have hc3 : c = 0 ∨ c = 1 ∨ c = 2 := by omega
      have w0 : wrap64 (wrap64 (2 * 0) + 1) = 1 := by unfold wrap64; omega
      have w1 : wrap64 (wrap64 (2 * 1) + 1) = 3 := by unfold wrap64; omega
      have w2 : wrap64 (wrap64 (2 * 2) + 1) = 5 := by unfold wrap64; omega
      have key : ∀ n : Int, s ^ (2 * c + 1).toNat = n → impl_raised.f k s (wrap64 (wrap64 (2 * c) + 1)) = some n →
          ((impl_raised.f k s (wrap64 (wrap64 (2 * c) + 1))).bind fun t137 => (impl_areMany.f k l t137 t137 0 (wrap64 (s - 1))).bind fun t138 => some t138) = some (validB s c l) := by
        intro n h1 h2
        rw [h2]
        simp only [Option.bind_some]
        rw [many_f s n l hs hn k (by omega), validB_at s c l n hs hc h1]
        rfl
      rcases hs with rfl | rfl <;> rcases hc3 with rfl | rfl | rfl
      · exact key 2 (by decide) (by rw [w0]; exact hr.1)
      · exact key 8 (by decide) (by rw [w1]; exact hr.2.1)
      · exact key 32 (by decide) (by rw [w2]; exact hr.2.2.1)
      · exact key 3 (by decide) (by rw [w0]; exact hr.2.2.2.1)
      · exact key 27 (by decide) (by rw [w1]; exact hr.2.2.2.2.1)
      · exact key 243 (by decide) (by rw [w2]; exact hr.2.2.2.2.2)
    · rw [decide_eq_false hc]
      simp only [Bool.not_false, impl_ValidRule.j0, if_true]
      unfold validB
      rw [decide_eq_false hc]; simp
  · have h2 : ¬ s = 2 := by omega
    have h3 : (s == 3) = false := by simp; omega
    rw [if_neg h2, h3]
    simp only [Option.bind_some, Bool.false_eq_true, if_false, impl_ValidRule.j0, if_true]
    unfold validB
    rw [decide_eq_false (show ¬ (2 ≤ s ∧ s ≤ 3) by omega)]; rfl

/-- Both bounds of a whole number of 64 bits. -/
def I64 (x : Int) : Prop := -9223372036854775808 ≤ x ∧ x ≤ 9223372036854775807

open Go.Proofs.Ytcigmgocllnhfaa.Va in
theorem is_f (s c : Int) (l : List Int) (hs : I64 s) (hc : I64 c) (hn : l.length ≤ 140737488351232) (k : Nat) : spec_l02Is.f k s c l = some (validB s c l) := by
  unfold spec_l02Is.f
  rw [if_pos ⟨hs, hc, hn⟩]

theorem sz_f (s c : Int) (l : List Int) (hn : l.length ≤ 9223372036854775807) (b : Int) (hb : 0 ≤ b ∧ b ≤ 1048576) : laws_szRule.f s c l b = some (if (l.length : Int) ≤ b then b - l.length else -1) := by
  unfold laws_szRule.f laws_szInt64S.f
  have e : wrap64 (b - (l.length : Int)) = b - l.length := by unfold wrap64; omega
  rw [e]
  by_cases h : (l.length : Int) ≤ b
  · rw [if_neg (by omega), if_pos h]; simp only [Option.bind_some]; rw [if_neg (by omega)]
  · rw [if_pos (by omega), if_neg h]; rfl

theorem toRule_f (s c : Int) (l : List Int) (hn : l.length ≤ 1048576) (k : Nat) (hk : l.length < k) : laws_toRule.f k s c l = some (s, c, l) := by
  unfold laws_toRule.f
  rw [copy_f l (by omega) k hk]; rfl

theorem eqRule_f (s r : Int) (x : List Int) (hn : x.length ≤ 140737488351232) (k : Nat) (hk : x.length < k) : laws_eqRule.f k s r x s r x = some true := by
  unfold laws_eqRule.f
  rw [if_pos rfl, if_pos rfl, eq_f x hn k hk]
  rfl

/-- The digits of a number, the greatest one first. -/
def digs (s : Nat) : Nat → Nat → List Int
  | 0, _ => []
  | n + 1, x => digs s n (x / s) ++ [((x % s : Nat) : Int)]
theorem digs_len (s : Nat) : ∀ n x, (digs s n x).length = n
  | 0, _ => rfl
  | n + 1, x => by simp [digs, digs_len s n]
theorem digs_lt (s : Nat) (hs : 0 < s) : ∀ n x, ∀ y ∈ digs s n x, 0 ≤ y ∧ y ≤ (s : Int) - 1
  | 0, _ => by simp [digs]
  | n + 1, x => by
    intro y hy
    rcases List.mem_append.mp hy with h | h
    · exact digs_lt s hs n _ y h
    · have h' : y = ((x % s : Nat) : Int) := by simpa using h
      subst h'
      have := Nat.mod_lt x hs
      omega
theorem spec_digits_loop (s : Nat) (hs : s = 2 ∨ s = 3) : ∀ (n k x : Nat) (l : List Int), x ≤ 1000000 → n ≤ l.length → n ≤ 1000 → n < k → spec_l02Digits.l0 k (x : Int) (s : Int) l ((n : Int) - 1) = some (digs s n x ++ l.drop n) := by
  intro n
  induction n with
  | zero =>
    intro k x l hx hl hn hk
    obtain ⟨k, rfl⟩ : ∃ m, k = m + 1 := ⟨k - 1, by omega⟩
    simp only [spec_l02Digits.l0]
    rw [if_neg (by omega)]
    rfl
  | succ n ih =>
    intro k x l hx hl hn hk
    obtain ⟨k, rfl⟩ : ∃ m, k = m + 1 := ⟨k - 1, by omega⟩
    have ed : Int.tdiv (x : Int) (s : Int) = ((x / s : Nat) : Int) := rfl
    have em : Int.tmod (x : Int) (s : Int) = ((x % s : Nat) : Int) := rfl
    have hd : x / s ≤ x := Nat.div_le_self _ _
    have he : digs s (n + 1) x = digs s n (x / s) ++ [((x % s : Nat) : Int)] := rfl
    rw [he]
    clear he
    revert ed em hd
    generalize x / s = q
    generalize x % s = z
    intro ed em hd
    simp only [spec_l02Digits.l0]
    rw [if_pos (by omega), if_neg (by omega), if_pos (by omega), if_pos (by omega), ed, em, show wrap64 (q : Int) = (q : Int) by unfold wrap64; omega, show wrap64 (((n + 1 : Nat) : Int) - 1 - 1) = ((n : Nat) : Int) - 1 by unfold wrap64; omega, show (((n + 1 : Nat) : Int) - 1).toNat = n by omega]
    rw [ih k q (l.set n (z : Int)) (by omega) (by simp; omega) (by omega) (by omega)]
    congr 1
    rw [List.append_assoc]
    congr 1
    rw [List.drop_eq_getElem_cons (by simp; omega), List.drop_set_of_lt (by omega)]
    simp
theorem spec_digits_f (s : Nat) (hs : s = 2 ∨ s = 3) (n x k : Nat) (hx : x ≤ 1000000) (hn : n ≤ 1000) (hk : n < k) : spec_l02Digits.f k (x : Int) (s : Int) (n : Int) = some (digs s n x) := by
  unfold spec_l02Digits.f
  rw [if_pos (by omega), show ((n : Nat) : Int).toNat = n by omega, if_pos (by omega), show wrap64 ((n : Int) - 1) = (n : Int) - 1 by unfold wrap64; omega]
  rw [spec_digits_loop s hs n k x (List.replicate n 0) hx (by simp) hn hk]
  simp
theorem impl_digits_loop (s : Nat) (hs : s = 2 ∨ s = 3) : ∀ (n k x : Nat) (l : List Int), x ≤ 1000000 → n ≤ l.length → n ≤ 1000 → n < k → impl_digitsOf.l0 k (x : Int) (s : Int) l ((n : Int) - 1) = some (digs s n x ++ l.drop n) := by
  intro n
  induction n with
  | zero =>
    intro k x l hx hl hn hk
    obtain ⟨k, rfl⟩ : ∃ m, k = m + 1 := ⟨k - 1, by omega⟩
    simp only [impl_digitsOf.l0]
    rw [if_neg (by omega)]
    rfl
  | succ n ih =>
    intro k x l hx hl hn hk
    obtain ⟨k, rfl⟩ : ∃ m, k = m + 1 := ⟨k - 1, by omega⟩
    have ed : Int.tdiv (x : Int) (s : Int) = ((x / s : Nat) : Int) := rfl
    have em : Int.tmod (x : Int) (s : Int) = ((x % s : Nat) : Int) := rfl
    have hd : x / s ≤ x := Nat.div_le_self _ _
    have he : digs s (n + 1) x = digs s n (x / s) ++ [((x % s : Nat) : Int)] := rfl
    rw [he]
    clear he
    revert ed em hd
    generalize x / s = q
    generalize x % s = z
    intro ed em hd
    simp only [impl_digitsOf.l0]
    rw [if_pos (by omega), if_neg (by omega), if_pos (by omega), if_pos (by omega), ed, em, show wrap64 (q : Int) = (q : Int) by unfold wrap64; omega, show wrap64 (((n + 1 : Nat) : Int) - 1 - 1) = ((n : Nat) : Int) - 1 by unfold wrap64; omega, show (((n + 1 : Nat) : Int) - 1).toNat = n by omega]
    rw [ih k q (l.set n (z : Int)) (by omega) (by simp; omega) (by omega) (by omega)]
    congr 1
    rw [List.append_assoc]
    congr 1
    rw [List.drop_eq_getElem_cons (by simp; omega), List.drop_set_of_lt (by omega)]
    simp
theorem impl_digits_f (s : Nat) (hs : s = 2 ∨ s = 3) (n x k : Nat) (hx : x ≤ 1000000) (hn : n ≤ 1000) (hk : n < k) : impl_digitsOf.f k (x : Int) (s : Int) (n : Int) = some (digs s n x) := by
  unfold impl_digitsOf.f
  rw [if_pos (by omega), show ((n : Nat) : Int).toNat = n by omega, if_pos (by omega), show wrap64 ((n : Int) - 1) = (n : Int) - 1 by unfold wrap64; omega]
  rw [impl_digits_loop s hs n k x (List.replicate n 0) hx (by simp) hn hk]
  simp

/-- s to the power of n. -/
def pwI (s : Int) : Nat → Int
  | 0 => 1
  | n + 1 => pwI s n * s
theorem pwI_pos (s : Int) (hs : s = 2 ∨ s = 3) : ∀ n, 1 ≤ pwI s n
  | 0 => by simp [pwI]
  | n + 1 => by
    have := pwI_pos s hs n
    unfold pwI
    rcases hs with rfl | rfl <;> omega
theorem rd_mem (t : List Int) (i : Nat) (h : i < t.length) : rd t (i : Int) ∈ t := by
  have : rd t (i : Int) = t[i] := by
    unfold rd; rw [List.getD_eq_getElem?_getD]; simp [h]
  rw [this]; exact List.getElem_mem _
theorem num_loop (s : Int) (hs : s = 2 ∨ s = 3) (t : List Int) (ht : ∀ y ∈ t, 0 ≤ y ∧ y ≤ s - 1) (hl : t.length ≤ 1000) (d : Nat) : ∀ (i : Nat) (a B : Int), i + d = t.length → 0 ≤ a → a < B → B * pwI s d ≤ 1000000 →
    ∃ v, 0 ≤ v ∧ v < B * pwI s d ∧ ∀ k, d < k → spec_l02Index.l0 k t s a (i : Int) = some v ∧ impl_numberOf.l0 k s a t (t.length : Int) (i : Int) = some v := by
  induction d with
  | zero =>
    intro i a B hi h0 h1 hB
    refine ⟨a, h0, by unfold pwI; omega, ?_⟩
    intro k hk
    obtain ⟨k, rfl⟩ : ∃ m, k = m + 1 := ⟨k - 1, by omega⟩
    refine ⟨?_, ?_⟩
    · simp only [spec_l02Index.l0]
      rw [if_neg (show ¬ (i : Int) < (t.length : Int) by omega)]
    · simp only [impl_numberOf.l0]
      rw [if_neg (show ¬ (i : Int) < (t.length : Int) by omega)]
  | succ d ih =>
    intro i a B hi h0 h1 hB
    have q1 : (i : Int) < (t.length : Int) := by clear ih ht hB hl h0 h1; omega
    have q2 : 0 ≤ (i : Int) := Int.natCast_nonneg i
    have hb := ht _ (rd_mem t i (by omega))
    obtain ⟨c, hc⟩ : ∃ c, rd t (i : Int) = c := ⟨_, rfl⟩
    rw [hc] at hb
    have hp := pwI_pos s hs d
    have e : B * pwI s (d + 1) = B * s * pwI s d := by
      show B * (pwI s d * s) = B * s * pwI s d
      rw [Int.mul_assoc, Int.mul_comm s]
    rw [e] at hB ⊢
    have hBs : B * s ≤ 1000000 := by
      have h2 : B * s * 1 ≤ B * s * pwI s d := Int.mul_le_mul_of_nonneg_left hp (by rcases hs with rfl | rfl <;> omega)
      omega
    obtain ⟨v, v0, v1, v2⟩ := ih (i + 1) (a * s + c) (B * s) (by omega) (by rcases hs with rfl | rfl <;> omega) (by rcases hs with rfl | rfl <;> omega) hB
    refine ⟨v, v0, v1, ?_⟩
    intro k hk
    obtain ⟨k, rfl⟩ : ∃ m, k = m + 1 := ⟨k - 1, by omega⟩
    have w1 : wrap64 (a * s) = a * s := by unfold wrap64; rcases hs with rfl | rfl <;> omega
    have w2 : wrap64 (a * s + c) = a * s + c := by unfold wrap64; rcases hs with rfl | rfl <;> omega
    have w3 : wrap64 ((i : Int) + 1) = ((i + 1 : Nat) : Int) := by unfold wrap64; omega
    obtain ⟨g1, g2⟩ := v2 k (by omega)
    refine ⟨?_, ?_⟩
    · simp only [spec_l02Index.l0]
      rw [if_pos q1, if_pos q2, hc, w1, w2, w3]
      exact g1
    · simp only [impl_numberOf.l0]
      rw [if_pos q1, if_pos q2, if_pos q1, hc, w1, w2, w3]
      exact g2
theorem num_f (s : Int) (hs : s = 2 ∨ s = 3) (t : List Int) (ht : ∀ y ∈ t, 0 ≤ y ∧ y ≤ s - 1) (hl : t.length ≤ 1000) (hp : pwI s t.length ≤ 1000000) :
    ∃ v, 0 ≤ v ∧ v < pwI s t.length ∧ ∀ k, t.length < k → spec_l02Index.f k t s = some v ∧ impl_numberOf.f k t s = some v := by
  obtain ⟨v, v0, v1, v2⟩ := num_loop s hs t ht hl t.length 0 0 1 (by omega) (by omega) (by omega) (by omega)
  rw [Int.one_mul] at v1
  exact ⟨v, v0, v1, v2⟩

/-- The number of digits, as the reference reads it. -/
def nv (s : Int) (l : List Int) : Int := (spec_l02Index.f 6 l s).getD 0
theorem nv_f (s : Int) (hs : s = 2 ∨ s = 3) (t : List Int) (ht : ∀ y ∈ t, 0 ≤ y ∧ y ≤ s - 1) (hl : t.length ≤ 5) (n : Int) (hp : pwI s t.length = n) (hn : n ≤ 1000000) :
    0 ≤ nv s t ∧ nv s t < n ∧ ∀ k, 6 ≤ k → spec_l02Index.f k t s = some (nv s t) ∧ impl_numberOf.f k t s = some (nv s t) := by
  subst hp
  obtain ⟨v, v0, v1, v2⟩ := num_f s hs t ht (by omega) hn
  have e : nv s t = v := by unfold nv; rw [(v2 6 (by omega)).1]; rfl
  rw [e]
  exact ⟨v0, v1, fun k hk => v2 k (by omega)⟩

end FnExactSenseOfParts
open FnExactSenseOfParts

theorem rd_set (t : List Int) (i : Nat) (h : i < t.length) : t.set i (rd t (i : Int)) = t := by
  have e : rd t (i : Int) = t[i] := by
    unfold rd; rw [List.getD_eq_getElem?_getD]; simp [h]
  rw [e, List.set_getElem_self]
/-- What is known of one neighbourhood t at one place q: the numbers v of what comes of it when the place is set. -/
structure Place (S L q : Nat) (tb t : List Int) (x : Nat) (v : Nat → Int) (tq : Int) : Prop where
  hS : S = 2 ∨ S = 3
  hL : L ≤ 5
  hq : q < L
  len : t.length = L
  hx : (x : Int) < (tb.length : Int)
  htq : rd t (q : Int) = tq
  t0 : 0 ≤ tq
  t1 : tq < (S : Int)
  dg : ∀ k, 12 ≤ k → spec_l02Digits.f k (x : Int) (S : Int) (L : Int) = some t
  vs : ∀ u : Nat, u < S → ∀ k, 6 ≤ k → spec_l02Index.f k (t.set q (u : Int)) (S : Int) = some (v u)
  vi : ∀ u : Nat, u < S → ∀ k, 6 ≤ k → impl_numberOf.f k (t.set q (u : Int)) (S : Int) = some (v u)
  v0 : ∀ u : Nat, u < S → 0 ≤ v u
  v1 : ∀ u : Nat, u < S → v u < (tb.length : Int)
theorem spec_step (S L q x : Nat) (tb t : List Int) (v : Nat → Int) (tq : Int) (F : Place S L q tb t x v tq) (r : Int) (st : Nat) (hst : st < S) (c a : Int) (ha : 0 ≤ c ∧ c ≤ a ∧ a ≤ 1000000000) (k : Nat) (hk : 12 ≤ k) :
    spec_SenseOf.l2 (k + 1) (L : Int) c a (x : Int) (q : Int) (st : Int) (S : Int) r tb = spec_SenseOf.l2 k (L : Int) (if tq = (st : Int) then c else if rd tb (v st) = rd tb (x : Int) then c else c + 1) (if tq = (st : Int) then a else a + 1) (x : Int) (q : Int) ((st + 1 : Nat) : Int) (S : Int) r tb := by
  have q1 : (st : Int) < (S : Int) := by omega
  have q2 : 0 ≤ (q : Int) := Int.natCast_nonneg q
  have q3 : (q : Int) < (t.length : Int) := by have := F.len; have := F.hq; omega
  have q4 : 0 ≤ (x : Int) := Int.natCast_nonneg x
  have e1 : wrap64 ((st : Int) + 1) = ((st + 1 : Nat) : Int) := by have := F.hS; unfold wrap64; omega
  have e2 : wrap64 (a + 1) = a + 1 := by unfold wrap64; omega
  have e3 : wrap64 (c + 1) = c + 1 := by unfold wrap64; omega
  have g := F.dg k hk
  have g2 := F.vs st hst k (by omega)
  simp only [spec_SenseOf.l2]
  rw [if_pos q1, g]
  simp only [Option.bind_some]
  rw [if_pos q2, if_pos q3, F.htq, e1]
  by_cases h : tq = (st : Int)
  · rw [if_pos h, if_pos h, if_pos h]
  · rw [if_neg h, if_neg h, if_neg h, show ((q : Nat) : Int).toNat = q from rfl, g2]
    simp only [Option.bind_some]
    rw [if_pos (F.v0 st hst), if_pos (F.v1 st hst), if_pos q4, if_pos F.hx, e2, e3]
    by_cases h' : rd tb (v st) = rd tb (x : Int)
    · rw [if_pos h', if_pos h']
    · rw [if_neg h', if_neg h']
theorem impl_step (S L q x : Nat) (tb t : List Int) (v : Nat → Int) (tq : Int) (F : Place S L q tb t x v tq) (r len M : Int) (st : Nat) (hst : st < S) (c a : Int) (ha : 0 ≤ c ∧ c ≤ a ∧ a ≤ 1000000000) (k : Nat) (hk : 12 ≤ k) (cells : List Int) (hcl : cells.length = L) (hce : ∀ u : Int, cells.set q u = t.set q u) :
    ∃ cells' : List Int, cells'.length = L ∧ (∀ u : Int, cells'.set q u = t.set q u) ∧
    impl_SenseOf.l2 (k + 1) c a (rd tb (x : Int)) cells (q : Int) tq tb len (x : Int) M (q : Int) (S : Int) (st : Int) (S : Int) r tb = impl_SenseOf.l2 k (if tq = (st : Int) then c else if rd tb (v st) = rd tb (x : Int) then c else c + 1) (if tq = (st : Int) then a else a + 1) (rd tb (x : Int)) cells' (q : Int) tq tb len (x : Int) M (q : Int) (S : Int) ((st + 1 : Nat) : Int) (S : Int) r tb := by
  have q1 : (st : Int) < (S : Int) := by omega
  have q2 : 0 ≤ (q : Int) := Int.natCast_nonneg q
  have q3 : (q : Int) < (cells.length : Int) := by have := F.hq; omega
  have e1 : wrap64 ((st : Int) + 1) = ((st + 1 : Nat) : Int) := by have := F.hS; unfold wrap64; omega
  have e2 : wrap64 (a + 1) = a + 1 := by unfold wrap64; omega
  have e3 : wrap64 (c + 1) = c + 1 := by unfold wrap64; omega
  have g2 := F.vi st hst k (by omega)
  by_cases h : tq = (st : Int)
  · have h2 : (st : Int) = tq := h.symm
    refine ⟨cells, hcl, hce, ?_⟩
    simp only [impl_SenseOf.l2]
    rw [if_pos q1, if_pos h2, if_pos h, if_pos h, e1]
  · have h2 : ¬ (st : Int) = tq := fun hh => h hh.symm
    refine ⟨t.set q (st : Int), by rw [List.length_set]; exact F.len, fun u => by rw [List.set_set], ?_⟩
    simp only [impl_SenseOf.l2]
    rw [if_pos q1, if_neg h2, if_pos q2, if_pos q3, show ((q : Nat) : Int).toNat = q from rfl, hce]
    simp only [Option.bind_some]
    unfold impl_Rule_tells.f
    rw [g2]
    simp only [Option.bind_some]
    rw [if_pos (F.v0 st hst), if_pos (F.v1 st hst)]
    simp only [Option.bind_some]
    rw [e1, e2, e3, if_neg h, if_neg h]
    by_cases h' : rd tb (v st) = rd tb (x : Int)
    · rw [if_pos h', if_pos h']
    · rw [if_neg h', if_neg h']
theorem inner (S L q x : Nat) (tb t : List Int) (v : Nat → Int) (tq : Int) (F : Place S L q tb t x v tq) (r len M : Int) : ∀ (d st : Nat) (c a : Int), st + d = S → 0 ≤ c → c ≤ a → a + d ≤ 1000000000 →
    ∃ c' : Int, 0 ≤ c' ∧ c' ≤ a + d - (if (st : Int) ≤ tq then 1 else 0) ∧
      (∀ m, 12 ≤ m → spec_SenseOf.l2 (m + d + 1) (L : Int) c a (x : Int) (q : Int) (st : Int) (S : Int) r tb = spec_SenseOf.l1 m (L : Int) c' (a + d - (if (st : Int) ≤ tq then 1 else 0)) (x : Int) ((q + 1 : Nat) : Int) (S : Int) r tb) ∧
      (∀ m, 12 ≤ m → ∀ cells : List Int, cells.length = L → (∀ u : Int, cells.set q u = t.set q u) → impl_SenseOf.l2 (m + d + 1) c a (rd tb (x : Int)) cells (q : Int) tq tb len (x : Int) M (q : Int) (S : Int) (st : Int) (S : Int) r tb = impl_SenseOf.l1 m c' (a + d - (if (st : Int) ≤ tq then 1 else 0)) (rd tb (x : Int)) t tb len (x : Int) M ((q + 1 : Nat) : Int) (S : Int) r tb) := by
  intro d
  induction d with
  | zero =>
    intro st c a hst h0 h1 h2
    have q1 : ¬ (st : Int) < (S : Int) := by omega
    have q2 : ¬ (st : Int) ≤ tq := by have := F.t1; omega
    have e1 : wrap64 ((q : Int) + 1) = ((q + 1 : Nat) : Int) := by have := F.hq; have := F.hL; unfold wrap64; omega
    have e0 : a + ((0 : Nat) : Int) - (if (st : Int) ≤ tq then 1 else 0) = a := by rw [if_neg q2]; omega
    rw [e0]
    refine ⟨c, h0, h1, fun m hm => ?_, fun m hm cells hcl hce => ?_⟩
    · show spec_SenseOf.l2 (m + 1) (L : Int) c a (x : Int) (q : Int) (st : Int) (S : Int) r tb = _
      simp only [spec_SenseOf.l2]
      rw [if_neg q1, e1]
    · have q3 : 0 ≤ (q : Int) := Int.natCast_nonneg q
      have q4 : (q : Int) < (cells.length : Int) := by have := F.hq; omega
      have q5 : cells.set q tq = t := by rw [hce, ← F.htq]; exact rd_set t q (by have := F.len; have := F.hq; omega)
      show impl_SenseOf.l2 (m + 1) c a (rd tb (x : Int)) cells (q : Int) tq tb len (x : Int) M (q : Int) (S : Int) (st : Int) (S : Int) r tb = _
      simp only [impl_SenseOf.l2]
      rw [if_neg q1, if_pos q3, if_pos q4, show ((q : Nat) : Int).toNat = q from rfl, q5, e1]
  | succ d ih =>
    intro st c a hst h0 h1 h2
    have hlt : st < S := by omega
    obtain ⟨c1, hc1⟩ : ∃ c1, c1 = (if tq = (st : Int) then c else if rd tb (v st) = rd tb (x : Int) then c else c + 1) := ⟨_, rfl⟩
    obtain ⟨a1, ha1⟩ : ∃ a1, a1 = (if tq = (st : Int) then a else a + 1) := ⟨_, rfl⟩
    have b1 : 0 ≤ c1 ∧ c1 ≤ a1 ∧ a1 ≤ a + 1 := by
      by_cases h : tq = (st : Int)
      · rw [if_pos h] at hc1 ha1; omega
      · rw [if_neg h] at hc1 ha1
        by_cases h' : rd tb (v st) = rd tb (x : Int)
        · rw [if_pos h'] at hc1; omega
        · rw [if_neg h'] at hc1; omega
    have b2 : a1 + (d : Int) - (if ((st + 1 : Nat) : Int) ≤ tq then 1 else 0) = a + ((d + 1 : Nat) : Int) - (if (st : Int) ≤ tq then 1 else 0) := by
      by_cases h : tq = (st : Int)
      · rw [if_pos h] at ha1; rw [if_neg (by omega), if_pos (by omega)]; omega
      · rw [if_neg h] at ha1
        by_cases h' : (st : Int) ≤ tq
        · rw [if_pos (by omega), if_pos h']; omega
        · rw [if_neg (by omega), if_neg h']; omega
    obtain ⟨c', g0, g1, g2, g3⟩ := ih (st + 1) c1 a1 (by omega) b1.1 b1.2.1 (by omega)
    rw [b2] at g1 g2 g3
    refine ⟨c', g0, g1, fun m hm => ?_, fun m hm cells hcl hce => ?_⟩
    · have s1 := spec_step S L q x tb t v tq F r st hlt c a ⟨h0, h1, by omega⟩ (m + d + 1) (by omega)
      rw [← hc1, ← ha1] at s1
      exact s1.trans (g2 m hm)
    · obtain ⟨cells', k1, k2, s1⟩ := impl_step S L q x tb t v tq F r len M st hlt c a ⟨h0, h1, by omega⟩ (m + d + 1) (by omega) cells hcl hce
      rw [← hc1, ← ha1] at s1
      exact s1.trans (g3 m hm cells' k1 k2)
theorem middle (S L x : Nat) (hS : S = 2 ∨ S = 3) (tb t : List Int) (v : Nat → Nat → Int) (F : ∀ q, q < L → Place S L q tb t x (v q) (rd t (q : Int))) (hL : L ≤ 5) (hlen : t.length = L) (r len : Int) (W : Nat) (hW : W + 1 = S) : ∀ (d q : Nat) (c a : Int), q + d = L → 0 ≤ c → c ≤ a → a + d * 3 ≤ 1000000000 →
    ∃ c' : Int, 0 ≤ c' ∧ c' ≤ a + (d * W : Nat) ∧
      (∀ m, 12 ≤ m → spec_SenseOf.l1 (m + d * (S + 2) + 1) (L : Int) c a (x : Int) (q : Int) (S : Int) r tb = spec_SenseOf.l0 m (L : Int) c' (a + (d * W : Nat)) (wrap64 ((x : Int) + 1)) (S : Int) r tb) ∧
      (∀ m, 12 ≤ m → impl_SenseOf.l1 (m + d * (S + 2) + 1) c a (rd tb (x : Int)) t tb len (x : Int) (L : Int) (q : Int) (S : Int) r tb = impl_SenseOf.l0 m c' (a + (d * W : Nat)) tb len (wrap64 ((x : Int) + 1)) (S : Int) r tb) := by
  intro d
  induction d with
  | zero =>
    intro q c a hq h0 h1 h2
    have q1 : ¬ (q : Int) < (L : Int) := by omega
    have e0 : a + ((0 * W : Nat) : Int) = a := by rw [Nat.zero_mul]; simp
    rw [e0, Nat.zero_mul]
    refine ⟨c, h0, h1, fun m hm => ?_, fun m hm => ?_⟩
    · show spec_SenseOf.l1 (m + 1) (L : Int) c a (x : Int) (q : Int) (S : Int) r tb = _
      simp only [spec_SenseOf.l1]
      rw [if_neg q1]
    · show impl_SenseOf.l1 (m + 1) c a (rd tb (x : Int)) t tb len (x : Int) (L : Int) (q : Int) (S : Int) r tb = _
      simp only [impl_SenseOf.l1]
      rw [if_neg q1]
  | succ d ih =>
    intro q c a hq h0 h1 h2
    have hql : q < L := by omega
    have G := F q hql
    have q1 : (q : Int) < (L : Int) := by omega
    have q2 : 0 ≤ (q : Int) := Int.natCast_nonneg q
    have q3 : (q : Int) < (t.length : Int) := by omega
    obtain ⟨c1, f0, f1, f2, f3⟩ := inner S L q x tb t (v q) _ G r len (L : Int) S 0 c a (Nat.zero_add _) h0 h1 (by omega)
    have e1 : a + (S : Int) - (if ((0 : Nat) : Int) ≤ rd t (q : Int) then 1 else 0) = a + (W : Int) := by rw [if_pos (by have := G.t0; omega)]; omega
    rw [e1] at f1 f2 f3
    obtain ⟨c', g0, g1, g2, g3⟩ := ih (q + 1) c1 (a + W) (by omega) f0 f1 (by omega)
    have e2 : a + (W : Int) + ((d * W : Nat) : Int) = a + (((d + 1) * W : Nat) : Int) := by rw [Nat.succ_mul]; omega
    rw [e2] at g1 g2 g3
    refine ⟨c', g0, g1, fun m hm => ?_, fun m hm => ?_⟩
    · have s1 := f2 (m + d * (S + 2) + 1) (by omega)
      have e3 : m + (d + 1) * (S + 2) + 1 = ((m + d * (S + 2) + 1) + S + 1) + 1 := by rw [Nat.succ_mul]; omega
      rw [e3]
      generalize hK : (m + d * (S + 2) + 1) + S + 1 = K at s1 ⊢
      simp only [spec_SenseOf.l1]
      rw [if_pos q1]
      exact s1.trans (g2 m hm)
    · have s1 := f3 (m + d * (S + 2) + 1) (by omega) t hlen (fun _ => rfl)
      have e3 : m + (d + 1) * (S + 2) + 1 = ((m + d * (S + 2) + 1) + S + 1) + 1 := by rw [Nat.succ_mul]; omega
      rw [e3]
      generalize hK : (m + d * (S + 2) + 1) + S + 1 = K at s1 ⊢
      simp only [impl_SenseOf.l1]
      rw [if_pos q1, if_pos q2, if_pos q3]
      exact s1.trans (g3 m hm)
theorem outer (S L N : Nat) (hS : S = 2 ∨ S = 3) (tb : List Int) (T : Nat → List Int) (v : Nat → Nat → Nat → Int) (F : ∀ x, x < N → ∀ q, q < L → Place S L q tb (T x) x (v x q) (rd (T x) (q : Int))) (hL : L ≤ 5) (hT : ∀ x, (T x).length = L) (hN : N ≤ 243) (htb : tb.length = N) (r : Int) (W : Nat) (hW : W + 1 = S)
    (hc : impl_Rule_cells.f (S : Int) r tb = some (L : Int)) (hdg : ∀ x, x < N → ∀ k, 12 ≤ k → impl_digitsOf.f k (x : Int) (S : Int) (L : Int) = some (T x)) (E : Nat) (hE : E = L * (S + 2)) (V : Nat) (hV : V = L * W) (hEV : E ≤ 25 ∧ V ≤ 10)
    (fin : ∀ c : Int, 0 ≤ c → c ≤ (N * V : Nat) → Go.Proofs.Ytcigmgocllnhfaa.Sg.okCA c (N * V : Nat) = true) : ∀ (d x : Nat) (c a : Int), x + d = N → 0 ≤ c → c ≤ a → a = (x * V : Nat) →
    ∃ z : Int, ∀ k, d * (E + 2) + 14 ≤ k → spec_SenseOf.l0 k (L : Int) c a (x : Int) (S : Int) r tb = some (z, true) ∧ impl_SenseOf.l0 k c a tb (tb.length : Int) (x : Int) (S : Int) r tb = some (z, true) := by
  intro d
  induction d with
  | zero =>
    intro x c a hx h0 h1 ha
    have q1 : ¬ (x : Int) < (tb.length : Int) := by omega
    have hxN : x = N := by omega
    subst hxN
    have hok : Go.Proofs.Ytcigmgocllnhfaa.Sg.okCA c a = true := by rw [ha]; exact fin c h0 (by rw [← ha]; exact h1)
    refine ⟨wrap64 (wrap64 (c * 65536) + a), fun k hk => ?_⟩
    obtain ⟨k, rfl⟩ : ∃ m, k = m + 1 := ⟨k - 1, by omega⟩
    refine ⟨?_, ?_⟩
    · simp only [spec_SenseOf.l0]; rw [if_neg q1, if_pos hok]
    · simp only [impl_SenseOf.l0]; rw [if_neg q1, if_pos hok]
  | succ d ih =>
    intro x c a hx h0 h1 ha
    have hxN : x < N := by omega
    have q1 : (x : Int) < (tb.length : Int) := by omega
    have q2 : 0 ≤ (x : Int) := Int.natCast_nonneg x
    have e1 : wrap64 ((x : Int) + 1) = ((x + 1 : Nat) : Int) := by unfold wrap64; omega
    have hxV : x * V ≤ 2430 := Nat.le_trans (Nat.mul_le_mul (Nat.le_trans (Nat.le_of_lt hxN) hN) hEV.2) (by decide)
    obtain ⟨c1, f0, f1, f2, f3⟩ := middle S L x hS tb (T x) (v x) (F x hxN) hL (hT x) r (tb.length : Int) W hW L 0 c a (Nat.zero_add _) h0 h1 (by omega)
    rw [← hV, e1] at f2 f3
    rw [← hV] at f1
    rw [← hE] at f2 f3
    have ha2 : a + (V : Int) = (((x + 1) * V : Nat) : Int) := by rw [Nat.succ_mul, ha]; omega
    obtain ⟨z, hz⟩ := ih (x + 1) c1 (a + V) (by omega) f0 f1 ha2
    refine ⟨z, fun k hk => ?_⟩
    have hk' : d * (E + 2) + (E + 2) + 14 ≤ k := by rw [Nat.succ_mul] at hk; exact hk
    obtain ⟨m, rfl⟩ : ∃ m, k = (m + E + 1) + 1 := ⟨k - (E + 2), by omega⟩
    obtain ⟨z1, z2⟩ := hz m (by omega)
    have s1 := f2 m (by omega)
    have s2 := f3 m (by omega)
    have g := hdg x hxN (m + E + 1) (by omega)
    generalize m + E + 1 = K at s1 s2 g ⊢
    refine ⟨?_, ?_⟩
    · simp only [spec_SenseOf.l0]
      rw [if_pos q1]
      rw [show ((0 : Nat) : Int) = 0 from rfl] at s1
      exact s1.trans z1
    · simp only [impl_SenseOf.l0]
      rw [if_pos q1, if_pos q2, if_pos q1, hc]
      simp only [Option.bind_some]
      rw [g]
      simp only [Option.bind_some]
      rw [hT]
      rw [show ((0 : Nat) : Int) = 0 from rfl] at s2
      exact s2.trans z2
theorem place_f (S L q x : Nat) (hS : S = 2 ∨ S = 3) (hL : L ≤ 5) (hq : q < L) (tb t : List Int) (hlen : t.length = L) (hx : (x : Int) < (tb.length : Int)) (ht : ∀ y ∈ t, 0 ≤ y ∧ y ≤ (S : Int) - 1) (htb : pwI (S : Int) L = (tb.length : Int)) (hsm : (tb.length : Int) ≤ 1000000)
    (dg : ∀ k, 12 ≤ k → spec_l02Digits.f k (x : Int) (S : Int) (L : Int) = some t) : Place S L q tb t x (fun u => nv (S : Int) (t.set q (u : Int))) (rd t (q : Int)) := by
  have hm := ht _ (rd_mem t q (by omega))
  have hv : ∀ u : Nat, u < S → 0 ≤ nv (S : Int) (t.set q (u : Int)) ∧ nv (S : Int) (t.set q (u : Int)) < (tb.length : Int) ∧ ∀ k, 6 ≤ k → spec_l02Index.f k (t.set q (u : Int)) (S : Int) = some (nv (S : Int) (t.set q (u : Int))) ∧ impl_numberOf.f k (t.set q (u : Int)) (S : Int) = some (nv (S : Int) (t.set q (u : Int))) := fun u hu =>
    nv_f (S : Int) (by omega) _ (fun y hy => by
      rcases List.mem_or_eq_of_mem_set hy with h | h
      · exact ht y h
      · subst h; omega) (by rw [List.length_set]; omega) _ (by rw [List.length_set, hlen]; exact htb) hsm
  exact ⟨hS, hL, hq, hlen, hx, rfl, hm.1, by omega, dg, fun u hu k hk => ((hv u hu).2.2 k hk).1, fun u hu k hk => ((hv u hu).2.2 k hk).2, fun u hu => (hv u hu).1, fun u hu => (hv u hu).2.1⟩
theorem pwI_facts (S C : Nat) (hS : S = 2 ∨ S = 3) (hC : C = 0 ∨ C = 1 ∨ C = 2) : pwI (S : Int) (2 * C + 1) = (S : Int) ^ (2 * C + 1) ∧ S ^ (2 * C + 1) ≤ 243 ∧ Go.Proofs.Ytcigmgocllnhfaa.Sg.isAll (S ^ (2 * C + 1) * ((2 * C + 1) * (S - 1))) = true ∧ (2 * C + 1) * (S + 2) ≤ 25 ∧ (2 * C + 1) * (S - 1) ≤ 10 := by
  rcases hS with rfl | rfl <;> rcases hC with rfl | rfl | rfl <;> exact ⟨by decide +kernel, by decide +kernel, by decide +kernel, by decide +kernel, by decide +kernel⟩
theorem wB (A : Nat) (h : A ≤ 2) : wrap64 (wrap64 (2 * (A : Int)) + 1) = ((2 * A + 1 : Nat) : Int) := by unfold wrap64; omega
theorem okCA_of (c : Int) (n : Nat) (hn : Go.Proofs.Ytcigmgocllnhfaa.Sg.isAll n = true) (h0 : 0 ≤ c) (h1 : c ≤ (n : Int)) : Go.Proofs.Ytcigmgocllnhfaa.Sg.okCA c (n : Int) = true := by
  unfold Go.Proofs.Ytcigmgocllnhfaa.Sg.okCA
  rw [show ((n : Nat) : Int).toNat = n from rfl, hn, decide_eq_true h0, decide_eq_true h1]
  rfl
theorem sense_loops (S C : Nat) (tb : List Int) (hS : S = 2 ∨ S = 3) (hC : C = 0 ∨ C = 1 ∨ C = 2) (htb : (tb.length : Int) = (S : Int) ^ (2 * C + 1)) :
    ∃ z : Int, ∀ k, 7000 ≤ k → spec_SenseOf.l0 k ((2 * C + 1 : Nat) : Int) 0 0 0 (S : Int) (C : Int) tb = some (z, true) ∧ impl_SenseOf.l0 k 0 0 tb (tb.length : Int) 0 (S : Int) (C : Int) tb = some (z, true) := by
  obtain ⟨p1, p2, p3, p4, p5⟩ := pwI_facts S C hS hC
  have hL5 : 2 * C + 1 ≤ 5 := by clear p1 p2 p3 p4 p5 htb; omega
  have hcells : impl_Rule_cells.f (S : Int) (C : Int) tb = some ((2 * C + 1 : Nat) : Int) := by unfold impl_Rule_cells.f; rw [wB C (by clear p1 p2 p3 p4 p5 htb; omega)]
  have hlN : tb.length = S ^ (2 * C + 1) := Int.ofNat.inj (htb.trans (Int.natCast_pow _ _).symm)
  have hpw : pwI (S : Int) (2 * C + 1) = (tb.length : Int) := by rw [p1, htb]
  clear p1 htb
  obtain ⟨W, hW⟩ : ∃ W, W + 1 = S := ⟨S - 1, by clear p2 p3 p4 p5 hlN hpw; omega⟩
  have hW2 : S - 1 = W := by clear p2 p3 p4 p5 hlN hpw; omega
  rw [hW2] at p3 p5
  generalize S ^ (2 * C + 1) = N at p2 p3 hlN
  generalize 2 * C + 1 = L at p3 p4 p5 hL5 hcells hpw ⊢
  have hsm : (tb.length : Int) ≤ 1000000 := by omega
  have hdig : ∀ x, x < N → ∀ k, 12 ≤ k → spec_l02Digits.f k (x : Int) (S : Int) (L : Int) = some (digs S L x) := fun x hx k hk => spec_digits_f S hS L x k (by omega) (by omega) (by omega)
  have hdig2 : ∀ x, x < N → ∀ k, 12 ≤ k → impl_digitsOf.f k (x : Int) (S : Int) (L : Int) = some (digs S L x) := fun x hx k hk => impl_digits_f S hS L x k (by omega) (by omega) (by omega)
  obtain ⟨E, hE⟩ : ∃ E, E = L * (S + 2) := ⟨_, rfl⟩
  obtain ⟨V, hV⟩ : ∃ V, V = L * W := ⟨_, rfl⟩
  rw [← hE] at p4
  rw [← hV] at p5 p3
  obtain ⟨z, hz⟩ := outer S L N hS tb (digs S L) _ (fun x hx q hq => place_f S L q x hS hL5 hq tb (digs S L x) (digs_len S L x) (by omega) (digs_lt S (by omega) L x) hpw hsm (hdig x hx)) hL5 (digs_len S L) p2 hlN (C : Int) W hW hcells hdig2 E hE V hV ⟨p4, p5⟩
    (fun c h0 h1 => okCA_of c (N * V) p3 h0 h1) N 0 0 0 (Nat.zero_add _) (Int.le_refl _) (Int.le_refl _) (by rw [Nat.zero_mul]; rfl)
  have hNE : N * (E + 2) ≤ 243 * 27 := Nat.mul_le_mul p2 (by omega)
  exact ⟨z, fun k hk => hz k (by omega)⟩

open Go.Proofs.Ytcigmgocllnhfaa.Va in
theorem sense_same (s c : Int) (l : List Int) (hs : I64 s) (hc : I64 c) (hn : l.length ≤ 140737488351232) (k : Nat) (hk : l.length + 8000 < k) :
    ∃ v b, spec_SenseOf.f k s c l = some (v, b) ∧ impl_SenseOf.f k s c l = some (v, b) := by
  unfold spec_SenseOf.f impl_SenseOf.f
  rw [is_f s c l hs hc hn, valid_f s c l hn _ (by omega)]
  simp only [Option.bind_some]
  cases hv : validB s c l with
  | false => exact ⟨_, _, rfl, rfl⟩
  | true =>
    unfold validB at hv
    simp only [Bool.and_eq_true, decide_eq_true_eq] at hv
    obtain ⟨hs2, hc2, hl, -⟩ := hv
    obtain ⟨S, rfl⟩ : ∃ S : Nat, s = S := ⟨s.toNat, by clear hl; omega⟩
    obtain ⟨C, rfl⟩ : ∃ C : Nat, c = C := ⟨c.toNat, by clear hl; omega⟩
    rw [show (2 * (C : Int) + 1).toNat = 2 * C + 1 by clear hl; omega] at hl
    obtain ⟨z, hz⟩ := sense_loops S C l (by clear hl; omega) (by clear hl; omega) hl
    obtain ⟨h1, h2⟩ := hz k (by clear hl; omega)
    simp only [if_true]
    rw [wB C (by clear hl; omega)]
    exact ⟨z, true, h1, h2⟩
theorem same_f (v : Int) : laws_sameFloat.f v v = some true := by unfold laws_sameFloat.f; rw [if_pos rfl]
theorem FnExactSenseOf (s c : Int) (l : List Int) (hs : I64 s) (hc : I64 c) (hn : l.length ≤ 9223372036854775807) : ∃ k, laws_FnExactSenseOf.f k s c l = some true := by
  refine ⟨l.length + 9000, ?_⟩
  unfold laws_FnExactSenseOf.f
  rw [sz_f s c l hn 1048576 (by omega)]
  simp only [Option.bind_some]
  by_cases h : (l.length : Int) ≤ 1048576
  · obtain ⟨v, b, h1, h2⟩ := sense_same s c l hs hc (by omega) (l.length + 9000) (by omega)
    rw [if_pos h, if_neg (by omega), toRule_f s c l (by omega) _ (by omega)]
    simp only [Option.bind_some, h1, h2, same_f, if_true, bne_self_eq_false]
    rw [show l.length + 9000 = (l.length + 8999) + 1 from rfl]
    simp only [laws_FnExactSenseOf.j0, Bool.false_eq_true, if_false]
    rw [toRule_f s c l (by omega) _ (by omega)]
    simp only [Option.bind_some]
    rw [eqRule_f s c l (by omega) _ (by omega)]
    rfl
  · rw [if_neg h, if_pos (by omega)]

end Go.Proofs.Ytcigmgocllnhfaa.Pure
