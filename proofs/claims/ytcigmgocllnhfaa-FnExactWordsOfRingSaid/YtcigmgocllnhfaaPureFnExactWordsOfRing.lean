/- The plain law of FnExactWordsOfRing, over the printed functions: program and reference answer alike. No condition beyond the stated bounds. -/
import Derived.Test.YtcigmgocllnhfaaPFnExactWordsOfRingx4
namespace Go.Proofs.Ytcigmgocllnhfaa.Pure
open Go.RowKit Go.Proofs.Ytcigmgocllnhfaa.PFnExactWordsOfRing Go.Proofs.YtcigmgocllnhfaaW.PrintWords Go.Proofs.YtcigmgocllnhfaaW.PrintLast
set_option linter.unusedSimpArgs false

namespace FnExactWordsOfRingParts
theorem rd_get (x : List Int) (i : Int) (h0 : 0 ≤ i) (h : i < (x.length : Int)) : x[i.toNat]? = some (rd x i) := by
  unfold rd
  rw [List.getD_eq_getElem?_getD, List.getElem?_eq_getElem (by omega)]
  rfl

theorem wrap_up {i : Int} {n : Nat} (h0 : 0 ≤ i) (h : i < (n : Int)) (hn : n ≤ 140737488351232) : wrap64 (i + 1) = i + 1 := by
  unfold wrap64; omega

theorem copy_loop (x0 : List Int) (hn : x0.length ≤ 140737488351232) (d : Nat) : ∀ (k : Nat) (x3 : List Int) (i : Int), 0 ≤ i → (x0.length : Int) - i = d → x3.length = x0.length →
    (∀ j : Nat, (j : Int) < i → x3[j]? = x0[j]?) → d < k → laws_toInt64S.l0 k x0 x3 i = some x0 := by
  induction d with
  | zero =>
    intro k x3 i h0 hd hl hj hk
    obtain ⟨k, rfl⟩ : ∃ m, k = m + 1 := ⟨k - 1, by omega⟩
    simp only [laws_toInt64S.l0]
    rw [if_neg (by omega)]
    congr 1
    apply List.ext_getElem?
    intro j
    by_cases h : (j : Int) < i
    · exact hj j h
    · rw [List.getElem?_eq_none (by omega), List.getElem?_eq_none (by omega)]
  | succ d ih =>
    intro k x3 i h0 hd hl hj hk
    obtain ⟨k, rfl⟩ : ∃ m, k = m + 1 := ⟨k - 1, by omega⟩
    simp only [laws_toInt64S.l0]
    rw [if_pos (by omega), if_pos h0, if_pos (by omega), wrap_up (n := x0.length) h0 (by omega) hn]
    refine ih k _ (i + 1) (by omega) (by omega) (by simpa using hl) ?_ (by omega)
    intro j hlt
    rw [List.getElem?_set]
    by_cases h : i.toNat = j
    · subst h
      rw [if_pos rfl, if_pos (by omega), rd_get x0 i h0 (by omega)]
    · rw [if_neg h]
      exact hj j (by omega)

theorem copy_f (x0 : List Int) (hn : x0.length * 8 ≤ 140737488351232) (k : Nat) (hk : x0.length < k) : laws_toInt64S.f k x0 = some x0 := by
  unfold laws_toInt64S.f
  rw [if_pos (by omega), if_pos (by omega)]
  exact copy_loop x0 (by omega) x0.length k _ 0 (by omega) (by omega) (by simp) (by intro j h; omega) hk

theorem eq_loop (x0 : List Int) (hn : x0.length ≤ 140737488351232) (d : Nat) : ∀ (k : Nat) (i : Int), 0 ≤ i → (x0.length : Int) - i = d → d < k → laws_eqInt64S.l0 k x0 x0 i = some true := by
  induction d with
  | zero =>
    intro k i h0 hd hk
    obtain ⟨k, rfl⟩ : ∃ m, k = m + 1 := ⟨k - 1, by omega⟩
    simp only [laws_eqInt64S.l0]
    rw [if_neg (by omega)]
  | succ d ih =>
    intro k i h0 hd hk
    obtain ⟨k, rfl⟩ : ∃ m, k = m + 1 := ⟨k - 1, by omega⟩
    simp only [laws_eqInt64S.l0]
    rw [if_pos (by omega), if_pos h0, if_pos (by omega), if_pos trivial, show wrap64 (i + 1) = i + 1 by unfold wrap64; omega]
    exact ih k (i + 1) (by omega) (by omega) (by omega)

theorem eq_f (x0 : List Int) (hn : x0.length ≤ 140737488351232) (k : Nat) (hk : x0.length < k) : laws_eqInt64S.f k x0 x0 = some true := by
  unfold laws_eqInt64S.f
  rw [if_pos rfl]
  exact eq_loop x0 hn x0.length k 0 (by omega) (by omega) hk

/-- What marking leaves: a, a + 1, .. -/
def Marked (a : Int) (x : List Int) : Prop := ∀ j : Nat, j < x.length → x[j]? = some (a + j)

theorem mark_loop (n : Nat) (hn : n ≤ 140737488351232) (d : Nat) : ∀ (k : Nat) (x : List Int) (i a : Int), 0 ≤ i → x.length = n → (n : Int) - i = d → a = 1 + i →
    (∀ j : Nat, (j : Int) < i → x[j]? = some (1 + (j : Int))) → d < k → ∃ y, laws_markInt64S.l0 k x a i = some (1 + (n : Int), y) ∧ y.length = n ∧ Marked 1 y := by
  induction d with
  | zero =>
    intro k x i a h0 hl hd ha hj hk
    obtain ⟨k, rfl⟩ : ∃ m, k = m + 1 := ⟨k - 1, by omega⟩
    simp only [laws_markInt64S.l0]
    rw [if_neg (by omega)]
    exact ⟨x, by rw [show a = 1 + (n : Int) by omega], hl, fun j h => hj j (by omega)⟩
  | succ d ih =>
    intro k x i a h0 hl hd ha hj hk
    obtain ⟨k, rfl⟩ : ∃ m, k = m + 1 := ⟨k - 1, by omega⟩
    simp only [laws_markInt64S.l0]
    rw [if_pos (by omega), if_pos h0, show wrap64 (i + 1) = i + 1 by unfold wrap64; omega, show wrap64 (a + 1) = a + 1 by unfold wrap64; omega]
    refine ih k _ (i + 1) (a + 1) (by omega) (by simpa using hl) (by omega) (by omega) ?_ (by omega)
    intro j hlt
    rw [List.getElem?_set]
    by_cases h : i.toNat = j
    · subst h
      rw [if_pos rfl, if_pos (by omega)]
      congr 1; omega
    · rw [if_neg h]
      exact hj j (by omega)

theorem mark_f (x : List Int) (hn : x.length ≤ 140737488351232) (k : Nat) (hk : x.length < k) : ∃ y, laws_markInt64S.f k x 1 = some (1 + (x.length : Int), y) ∧ y.length = x.length ∧ Marked 1 y := by
  unfold laws_markInt64S.f
  exact mark_loop x.length hn x.length k x 0 1 (by omega) rfl (by omega) (by omega) (by intro j h; omega) hk

theorem held_loop (x : List Int) (hn : x.length ≤ 140737488351232) (hm : Marked 1 x) (d : Nat) : ∀ (k : Nat) (i a : Int), 0 ≤ i → (x.length : Int) - i = d → a = 1 + i → d < k →
    laws_heldInt64S.l0 k x a i = some (1 + (x.length : Int)) := by
  induction d with
  | zero =>
    intro k i a h0 hd ha hk
    obtain ⟨k, rfl⟩ : ∃ m, k = m + 1 := ⟨k - 1, by omega⟩
    simp only [laws_heldInt64S.l0]
    rw [if_neg (by omega)]
    congr 1; omega
  | succ d ih =>
    intro k i a h0 hd ha hk
    obtain ⟨k, rfl⟩ : ∃ m, k = m + 1 := ⟨k - 1, by omega⟩
    simp only [laws_heldInt64S.l0]
    have hr : rd x i = a := by
      have h1 := hm i.toNat (by omega)
      unfold rd
      rw [List.getD_eq_getElem?_getD, h1]
      simp; omega
    rw [if_pos (by omega), if_pos h0, if_pos hr, show wrap64 (i + 1) = i + 1 by unfold wrap64; omega, show wrap64 (a + 1) = a + 1 by unfold wrap64; omega]
    exact ih k (i + 1) (a + 1) (by omega) (by omega) (by omega) (by omega)

theorem held_f (x : List Int) (hn : x.length ≤ 140737488351232) (hm : Marked 1 x) (k : Nat) (hk : x.length < k) : laws_heldInt64S.f k x 1 = some (1 + (x.length : Int)) := by
  unfold laws_heldInt64S.f
  exact held_loop x hn hm x.length k 0 1 (by omega) (by omega) (by omega) hk

theorem in_f (a b c : Int) : spec_l00In.f a b c = some (decide (b ≤ a ∧ a ≤ c)) := by
  unfold spec_l00In.f
  by_cases h : a ≥ b
  · rw [if_pos h]; simp; omega
  · rw [if_neg h]; simp; omega

theorem within_f (a b c : Int) : impl_within.f a b c = some (decide (b ≤ a ∧ a ≤ c)) := by
  unfold impl_within.f
  by_cases h : a ≥ b
  · rw [if_pos h]; simp; omega
  · rw [if_neg h]; simp; omega


theorem ring_loops (x : List Int) (hn : x.length ≤ 140737488351232) (s t : Int) (hs : t = wrap64 (s - 1)) (d : Nat) : ∀ (k : Nat) (i : Int), 0 ≤ i → (x.length : Int) - i = d → d < k →
    ∃ r : Bool, impl_areWithin.l0 k 0 t x x.length i = some r ∧ spec_l02Ring.l0 k x s i = some (r && decide (1 ≤ x.length ∧ x.length ≤ 64)) ∧ (r = true → ∀ j : Int, i ≤ j → j < x.length → 0 ≤ rd x j ∧ rd x j ≤ t) := by
  induction d with
  | zero =>
    intro k i h0 hd hk
    obtain ⟨k, rfl⟩ : ∃ m, k = m + 1 := ⟨k - 1, by omega⟩
    simp only [impl_areWithin.l0, spec_l02Ring.l0]
    simp only [if_neg (show ¬ i < (x.length : Int) by omega)]
    refine ⟨true, rfl, ?_, fun _ j h1 h2 => by omega⟩
    rw [Bool.true_and]
    by_cases h : (x.length : Int) ≥ 1
    · rw [if_pos h]; congr 1; rw [decide_eq_decide]; omega
    · rw [if_neg h]; congr 1; exact (decide_eq_false (by omega)).symm
  | succ d ih =>
    intro k i h0 hd hk
    obtain ⟨k, rfl⟩ : ∃ m, k = m + 1 := ⟨k - 1, by omega⟩
    have hlt : i < (x.length : Int) := by omega
    simp only [impl_areWithin.l0, spec_l02Ring.l0, if_pos hlt, if_pos h0, in_f, within_f, Option.bind_some, ← hs, show wrap64 (i + 1) = i + 1 by unfold wrap64; omega]
    by_cases hin : 0 ≤ rd x i ∧ rd x i ≤ t
    · simp only [hin, and_self, decide_true, if_true]
      obtain ⟨r, h1, h2, h3⟩ := ih k (i + 1) (by omega) (by omega) (by omega)
      refine ⟨r, h1, h2, fun hr j hj1 hj2 => ?_⟩
      by_cases hij : j = i
      · subst hij; exact hin
      · exact h3 hr j (by omega) hj2
    · simp only [hin, decide_false, Bool.false_eq_true, if_false]
      exact ⟨false, rfl, rfl, fun h => by cases h⟩

theorem isRing_same (x : List Int) (hn : x.length ≤ 140737488351232) (s : Int) (k : Nat) (hk : x.length < k) :
    ∃ r q : Bool, impl_IsRing.f k x s = some r ∧ spec_l02Ring.f k x s = some q ∧ r = (decide (2 ≤ s ∧ s ≤ 3) && q) ∧
      (r = true → (s = 2 ∨ s = 3) ∧ 1 ≤ x.length ∧ x.length ≤ 64 ∧ ∀ j : Int, 0 ≤ j → j < x.length → 0 ≤ rd x j ∧ rd x j ≤ s - 1) := by
  obtain ⟨r, h1, h2, h3⟩ := ring_loops x hn s (wrap64 (s - 1)) rfl x.length k 0 (by omega) (by omega) hk
  unfold impl_IsRing.f impl_areStates.f impl_areMany.f impl_areWithin.f spec_l02Ring.f
  rw [h1, h2]
  simp only [within_f, Option.bind_some]
  by_cases hs : s = 2 ∨ s = 3
  · have e1 : (2 ≤ s ∧ s ≤ 3) := by omega
    have e2 : (if s = 2 then some true else some (s == 3)) = some true := by
      rcases hs with rfl | rfl <;> rfl
    have e3 : wrap64 (s - 1) = s - 1 := by unfold wrap64; omega
    by_cases hl : (1 : Int) ≤ x.length ∧ (x.length : Int) ≤ 64
    · have : 1 ≤ x.length ∧ x.length ≤ 64 := by omega
      refine ⟨r, r, ?_, by simp [this], by simp [e1], fun hr => ⟨hs, by omega, by omega, fun j hj1 hj2 => ?_⟩⟩
      · rw [e2]; simp [hl]
      · rw [← e3]; exact h3 hr j hj1 hj2
    · have : ¬ (1 ≤ x.length ∧ x.length ≤ 64) := by omega
      refine ⟨false, false, ?_, by simp [this], by simp, fun h => by cases h⟩
      · rw [e2]
        have : decide ((1 : Int) ≤ x.length ∧ (x.length : Int) ≤ 64) = false := by simpa using hl
        simp only [this, Option.bind_some, Bool.false_eq_true, if_false, if_true]
  · refine ⟨false, _, ?_, rfl, ?_, fun h => by cases h⟩
    · have h2 : ¬ s = 2 := by omega
      have h3 : (s == 3) = false := by simp; omega
      simp only [if_neg h2, h3, Option.bind_some, Bool.false_eq_true, if_false]
    · have : decide (2 ≤ s ∧ s ≤ 3) = false := by simp; omega
      rw [this]; rfl

end FnExactWordsOfRingParts
open FnExactWordsOfRingParts

/-- s to the power of n, for small ones. -/
def pw (s : Int) : Nat → Int
  | 0 => 1
  | n + 1 => pw s n * s

theorem powers_small (s n : Int) (hs : s = 2 ∨ s = 3) (hn : 1 ≤ n ∧ n ≤ 4) : (∀ k, 5 < k → spec_l02Powers.f k s n = some (pw s n.toNat)) ∧ (∀ k, 5 < k → impl_raised.f k s n = some (pw s n.toNat)) ∧ 2 ≤ pw s n.toNat ∧ pw s n.toNat ≤ 81 := by
  have key : spec_l02Powers.f 6 s n = some (pw s n.toNat) ∧ impl_raised.f 6 s n = some (pw s n.toNat) ∧ 2 ≤ pw s n.toNat ∧ pw s n.toNat ≤ 81 := by
    have : n = 1 ∨ n = 2 ∨ n = 3 ∨ n = 4 := by omega
    rcases hs with rfl | rfl <;> rcases this with rfl | rfl | rfl | rfl <;> decide +kernel
  exact ⟨fun k hk => at_rounds (fun k => spec_l02Powers.mono s n k) (show 6 ≤ k by omega) key.1, fun k hk => at_rounds (fun k => impl_raised.mono s n k) (show 6 ≤ k by omega) key.2.1, key.2.2⟩

theorem inner (x : List Int) (s z : Int) (hs : s = 2 ∨ s = 3) (hx : 1 ≤ x.length ∧ x.length ≤ 64) (hr : ∀ j : Int, 0 ≤ j → j < x.length → 0 ≤ rd x j ∧ rd x j ≤ s - 1) (hz : z ≤ 4)
    (y : List Int) (i : Int) (hi : 0 ≤ i) (hi2 : i < x.length) (d : Nat) : ∀ (k : Nat) (v j P : Int), 0 ≤ j → z - j = d → 0 ≤ v → v < P → P ≤ 81 → P * pw s d = y.length → y.length ≤ 81 →
    ∃ u : Int, 0 ≤ u ∧ u < y.length ∧
      spec_l02Words.l1 (k + d + 1) x s z y x.length i v j = spec_l02Words.l0 k x s z (y.set u.toNat (wrap64 (rd y u + 1))) x.length (i + 1) ∧
      impl_WordsOfRing.l1 (k + d + 1) x s z y i v x.length i z j = impl_WordsOfRing.l0 k x s z (y.set u.toNat (wrap64 (rd y u + 1))) x.length (i + 1) := by
  induction d with
  | zero =>
    intro k v j P hj hd hv hvP hP hpw hy
    have hL : (y.length : Int) = P := by simpa [pw] using hpw.symm
    refine ⟨v, hv, by omega, ?_, ?_⟩
    · simp only [Nat.add_zero, spec_l02Words.l1]
      rw [if_neg (by omega), if_pos hv, if_pos (by omega), show wrap64 (i + 1) = i + 1 by unfold wrap64; omega]
    · simp only [Nat.add_zero, impl_WordsOfRing.l1]
      rw [if_neg (by omega), if_pos hv, if_pos (by omega), show wrap64 (i + 1) = i + 1 by unfold wrap64; omega]
  | succ d ih =>
    intro k v j P hj hd hv hvP hP hpw hy
    have hw1 : wrap64 (i + j) = i + j := by unfold wrap64; omega
    have ht0 : 0 ≤ Int.tmod (i + j) (x.length : Int) := Int.tmod_nonneg _ (by omega)
    have ht1 : Int.tmod (i + j) (x.length : Int) < x.length := Int.tmod_lt_of_pos _ (by omega)
    obtain ⟨hr0, hr1⟩ := hr _ ht0 ht1
    obtain ⟨c, hc⟩ : ∃ c, rd x (Int.tmod (i + j) (x.length : Int)) = c := ⟨_, rfl⟩
    rw [hc] at hr0 hr1
    have hpd : 1 ≤ pw s d := by
      clear ih hpw hd
      induction d with
      | zero => simp [pw]
      | succ d ih => unfold pw; rcases hs with rfl | rfl <;> omega
    have hPs : P * s * pw s d = y.length := by
      rw [← hpw]
      show P * s * pw s d = P * (pw s d * s)
      rw [Int.mul_assoc, Int.mul_comm s]
    have hPs2 : P * s ≤ 81 := by
      have h1 : P * s * 1 ≤ P * s * pw s d := Int.mul_le_mul_of_nonneg_left hpd (by rcases hs with rfl | rfl <;> omega)
      omega
    have hw2 : wrap64 (v * s) = v * s := by unfold wrap64; rcases hs with rfl | rfl <;> omega
    have hw3 : wrap64 (v * s + c) = v * s + c := by unfold wrap64; rcases hs with rfl | rfl <;> omega
    have hw4 : wrap64 (j + 1) = j + 1 := by unfold wrap64; omega
    obtain ⟨u, h0, h1, h2, h3⟩ := ih k (v * s + c) (j + 1) (P * s) (by omega) (by omega) (by rcases hs with rfl | rfl <;> omega) (by rcases hs with rfl | rfl <;> omega) hPs2 hPs hy
    refine ⟨u, h0, h1, ?_, ?_⟩
    · rw [← h2, show k + (d + 1) + 1 = (k + d + 1) + 1 by omega]
      simp only [spec_l02Words.l1]
      rw [if_pos (by omega), if_neg (by omega), hw1, if_pos ht0, if_pos ht1, hc, hw2, hw3, hw4]
    · rw [← h3, show k + (d + 1) + 1 = (k + d + 1) + 1 by omega]
      simp only [impl_WordsOfRing.l1]
      rw [if_pos (by omega), if_neg (by omega), hw1, if_pos ht0, if_pos ht1, hc, hw2, hw3, hw4]

theorem outer (x : List Int) (s z : Int) (hs : s = 2 ∨ s = 3) (hx : 1 ≤ x.length ∧ x.length ≤ 64) (hr : ∀ j : Int, 0 ≤ j → j < x.length → 0 ≤ rd x j ∧ rd x j ≤ s - 1) (hz : 1 ≤ z ∧ z ≤ 4) (m : Nat) :
    ∀ (k : Nat) (y : List Int) (i : Int), 0 ≤ i → (x.length : Int) - i = m → (y.length : Int) = pw s z.toNat → y.length ≤ 81 → m * 7 < k →
    ∃ t : List Int, spec_l02Words.l0 k x s z y x.length i = some (t, true) ∧ impl_WordsOfRing.l0 k x s z y x.length i = some (t, true) ∧ t.length ≤ 81 := by
  induction m with
  | zero =>
    intro k y i hi hm hy hy2 hk
    obtain ⟨k, rfl⟩ : ∃ m, k = m + 1 := ⟨k - 1, by omega⟩
    simp only [spec_l02Words.l0, impl_WordsOfRing.l0]
    simp only [if_neg (show ¬ i < (x.length : Int) by omega)]
    exact ⟨y, rfl, rfl, hy2⟩
  | succ m ih =>
    intro k y i hi hm hy hy2 hk
    obtain ⟨k', rfl⟩ : ∃ k', k = k' + z.toNat + 1 + 1 := ⟨k - z.toNat - 2, by omega⟩
    obtain ⟨u, h0, h1, h2, h3⟩ := inner x s z hs hx hr hz.2 y i hi (by omega) z.toNat k' 0 0 1 (by omega) (by omega) (by omega) (by omega) (by omega) (by rw [Int.one_mul]; exact hy.symm) hy2
    obtain ⟨t, g1, g2, g3⟩ := ih k' (y.set u.toNat (wrap64 (rd y u + 1))) (i + 1) (by omega) (by omega) (by simpa using hy) (by simpa using hy2) (by omega)
    refine ⟨t, ?_, ?_, g3⟩
    · rw [← g1, ← h2]
      rw [show spec_l02Words.l0 (k' + z.toNat + 1 + 1) x s z y x.length i = (if i < (x.length : Int) then spec_l02Words.l1 (k' + z.toNat + 1) x s z y x.length i 0 0 else some (y, true)) from by simp only [spec_l02Words.l0]]
      rw [if_pos (by omega)]
    · rw [← g2, ← h3]
      rw [show impl_WordsOfRing.l0 (k' + z.toNat + 1 + 1) x s z y x.length i = (if i < (x.length : Int) then impl_WordsOfRing.l1 (k' + z.toNat + 1) x s z y i 0 x.length i z 0 else some (y, true)) from by simp only [impl_WordsOfRing.l0]]
      rw [if_pos (by omega)]

theorem words_same (x : List Int) (hn : x.length ≤ 140737488351232) (s z : Int) (k : Nat) (hk : x.length + 1000 < k) :
    ∃ (t : List Int) (b : Bool), spec_WordsOfRing.f k x s z = some (t, b) ∧ impl_WordsOfRing.f k x s z = some (t, b) ∧ t.length ≤ 81 := by
  obtain ⟨r, q, h1, h2, h3, h4⟩ := isRing_same x hn s k (by omega)
  obtain ⟨k, rfl⟩ : ∃ m, k = m + 1 := ⟨k - 1, by omega⟩
  unfold spec_WordsOfRing.f spec_l02Words.f impl_WordsOfRing.f
  rw [h1]
  simp only [in_f, within_f, Option.bind_some]
  cases r with
  | false =>
    by_cases hs : 2 ≤ s ∧ s ≤ 3
    · have hq : q = false := by cases q <;> simp [hs] at h3 ⊢
      subst hq
      simp only [hs, and_self, decide_true, if_true, h2, Option.bind_some, Bool.false_eq_true, if_false, spec_l02Words.j0, impl_WordsOfRing.j0]
      exact ⟨_, _, rfl, rfl, by simp⟩
    · simp only [hs, decide_false, Option.bind_some, Bool.false_eq_true, if_false, if_true, spec_l02Words.j0, impl_WordsOfRing.j0]
      exact ⟨_, _, rfl, rfl, by simp⟩
  | true =>
    obtain ⟨hs, hl1, hl2, hall⟩ := h4 rfl
    have hs' : 2 ≤ s ∧ s ≤ 3 := by omega
    have hq : q = true := by cases q <;> simp [hs'] at h3 ⊢
    subst hq
    simp only [hs', and_self, decide_true, if_true, h2, Option.bind_some]
    by_cases hz : 1 ≤ z ∧ z ≤ 4
    · obtain ⟨p1, p2, p3, p4⟩ := powers_small s z hs hz
      have hlen : (List.replicate (pw s z.toNat).toNat (0 : Int)).length = (pw s z.toNat).toNat := List.length_replicate
      obtain ⟨t, g1, g2, g3⟩ := outer x s z hs ⟨hl1, hl2⟩ hall hz x.length k (List.replicate (pw s z.toNat).toNat 0) 0 (by omega) (by omega) (by rw [hlen]; omega) (by rw [hlen]; omega) (by omega)
      simp only [hz, and_self, decide_true, Bool.not_true, spec_l02Words.j0, impl_WordsOfRing.j0, Bool.false_eq_true, if_false, p1 k (by omega), p2 k (by omega), Option.bind_some]
      rw [if_pos (by omega), if_pos (by omega), if_pos (by omega), if_pos (by omega), g1, g2]
      exact ⟨t, true, rfl, rfl, g3⟩
    · simp only [hz, decide_false, Bool.not_false, spec_l02Words.j0, impl_WordsOfRing.j0, if_true, Option.bind_some]
      exact ⟨_, _, rfl, rfl, by simp⟩

theorem FnExactWordsOfRing : laws_FnExactWordsOfRing.Pure := by
  intro l s z _ hl _ _ _
  have hn : l.length ≤ 140737488351232 := by omega
  obtain ⟨K, hK⟩ : ∃ K, K = l.length + 1001 := ⟨_, rfl⟩
  obtain ⟨t, b, h1, h2, ht⟩ := words_same l hn s z (K + 3) (by omega)
  obtain ⟨t', b', h1', h2', -⟩ := words_same l hn s z (K + 1) (by omega)
  have e := at_rounds (fun k => spec_WordsOfRing.mono l s z k) (show K + 1 ≤ K + 3 by omega) h1'
  rw [h1] at e
  obtain ⟨rfl, rfl⟩ : t = t' ∧ b = b' := by simpa using e
  refine ⟨K + 3, ?_⟩
  unfold laws_FnExactWordsOfRing.f
  by_cases hb : (l.length : Int) > 1048576
  · rw [if_pos hb]
  rw [if_neg hb, copy_f l hl _ (by omega)]
  have hbb : (b != b) = false := by cases b <;> rfl
  obtain ⟨m0, hm1, hm2, hm3⟩ := mark_f l hn (K + 2) (by omega)
  obtain ⟨m, gm1, gm2, gm3⟩ := mark_f t (by omega) (K + 1) (by omega)
  have hh := held_f m (by omega) gm3 (K + 1) (by omega)
  have hh' := held_f m (by omega) gm3 K (by omega)
  rw [gm2] at hh hh'
  simp only [Option.bind_some, h1, h2, eq_f t (by omega) (K + 3) (by omega), if_true, laws_FnExactWordsOfRing.j0, hbb, Bool.false_eq_true, if_false, copy_f l hl (K + 2) (by omega), eq_f l hn (K + 2) (by omega), hm1]
  rw [if_neg (by omega)]
  simp only [Option.bind_some, eq_f t (by omega) (K + 2) (by omega), if_true, laws_FnExactWordsOfRing.j1, hbb, Bool.false_eq_true, if_false, gm1, hh]
  rw [if_neg (by omega)]
  simp only [copy_f l hl (K + 1) (by omega), Option.bind_some, h2', eq_f t (by omega) (K + 1) (by omega), if_true, laws_FnExactWordsOfRing.j2, hbb, Bool.false_eq_true, if_false, hh']
  rw [if_neg (by omega)]

end Go.Proofs.Ytcigmgocllnhfaa.Pure
