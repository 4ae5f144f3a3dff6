/- The plain law of FnExactDotNumbers, over the functions beside: program and reference answer alike. No condition beyond the stated bounds. -/
import Derived.Test.YtigcnipgmjmenaaQFnExactDotNumbersx2
namespace Go.Proofs.Ytigcnipgmjmenaa.Pure
open Go.RowKit Go.Proofs.Ytigcnipgmjmenaa.QFnExactDotNumbers Go.Proofs.YtigcnipgmjmenaaW.PrintWords Go.Proofs.YtigcnipgmjmenaaW.PrintLast
set_option linter.unusedSimpArgs false
set_option linter.unusedVariables false

namespace FnExactDotNumbersParts
theorem rd_get (x : List Int) (i : Int) (h0 : 0 ≤ i) (h : i < (x.length : Int)) : x[i.toNat]? = some (rd x i) := by
  unfold rd
  rw [List.getD_eq_getElem?_getD, List.getElem?_eq_getElem (by omega)]
  rfl

theorem wrap_up {i : Int} {n : Nat} (h0 : 0 ≤ i) (h : i < (n : Int)) (hn : n ≤ 140737488351232) : wrap64 (i + 1) = i + 1 := by
  unfold wrap64; omega

theorem copy_loop (x0 : List Int) (hn : x0.length ≤ 140737488351232) (d : Nat) : ∀ (k : Nat) (x3 : List Int) (i : Int), 0 ≤ i → (x0.length : Int) - i = d → x3.length = x0.length →
    (∀ j : Nat, (j : Int) < i → x3[j]? = x0[j]?) → d < k → laws_toFloat32S.l0 k x0 x3 i = some x0 := by
  induction d with
  | zero =>
    intro k x3 i h0 hd hl hj hk
    obtain ⟨k, rfl⟩ : ∃ m, k = m + 1 := ⟨k - 1, by omega⟩
    simp only [laws_toFloat32S.l0]
    rw [if_neg (by omega)]
    congr 1
    apply List.ext_getElem?
    intro j
    by_cases h : (j : Int) < i
    · exact hj j h
    · rw [List.getElem?_eq_none (by omega), List.getElem?_eq_none (by omega)]
  | succ d ih =>
    intro k x3 i h0 hd hl hj hk
    obtain ⟨k, rfl⟩ : ∃ m, k = m + 1 := ⟨k - 1, by omega⟩
    simp only [laws_toFloat32S.l0]
    rw [if_pos (by omega), if_pos h0, if_pos (by omega), wrap_up (n := x0.length) h0 (by omega) hn]
    refine ih k _ (i + 1) (by omega) (by omega) (by simpa using hl) ?_ (by omega)
    intro j hlt
    rw [List.getElem?_set]
    by_cases h : i.toNat = j
    · subst h
      rw [if_pos rfl, if_pos (by omega), rd_get x0 i h0 (by omega)]
    · rw [if_neg h]
      exact hj j (by omega)

theorem copy_f (x0 : List Int) (hn : x0.length ≤ 1048576) (k : Nat) (hk : x0.length < k) : laws_toFloat32S.f k x0 = some x0 := by
  unfold laws_toFloat32S.f
  rw [if_pos (by omega), if_pos (by omega)]
  exact copy_loop x0 (by omega) x0.length k _ 0 (by omega) (by omega) (by simp) (by intro j h; omega) hk

theorem same_f (a : Int) : laws_sameFloat.f a a = some true := by unfold laws_sameFloat.f; rw [if_pos rfl]

theorem eq_loop (x0 : List Int) (hn : x0.length ≤ 140737488351232) (d : Nat) : ∀ (k : Nat) (i : Int), 0 ≤ i → (x0.length : Int) - i = d → d < k → laws_eqFloat32S.l0 k x0 x0 i = some true := by
  induction d with
  | zero =>
    intro k i h0 hd hk
    obtain ⟨k, rfl⟩ : ∃ m, k = m + 1 := ⟨k - 1, by omega⟩
    simp only [laws_eqFloat32S.l0]
    rw [if_neg (by omega)]
  | succ d ih =>
    intro k i h0 hd hk
    obtain ⟨k, rfl⟩ : ∃ m, k = m + 1 := ⟨k - 1, by omega⟩
    simp only [laws_eqFloat32S.l0]
    rw [if_pos (by omega), if_pos h0, if_pos (by omega), same_f]
    simp only [Option.bind_some, if_true]
    rw [show wrap64 (i + 1) = i + 1 by unfold wrap64; omega]
    exact ih k (i + 1) (by omega) (by omega) (by omega)

theorem eq_f (x0 : List Int) (hn : x0.length ≤ 140737488351232) (k : Nat) (hk : x0.length < k) : laws_eqFloat32S.f k x0 x0 = some true := by
  unfold laws_eqFloat32S.f
  rw [if_pos rfl]
  exact eq_loop x0 hn x0.length k 0 (by omega) (by omega) hk

end FnExactDotNumbersParts
open FnExactDotNumbersParts

open Go.Proofs.Ytigcnipgmjmenaa.Ft
theorem dot_loop (x y : List Int) (hn : x.length ≤ 1048576) (hy : y.length = x.length) (d : Nat) : ∀ (k : Nat) (i s : Int), 0 ≤ i → (x.length : Int) - i = d → d < k →
    ∃ t, spec_l01Dot.l0 k x y s i = some t ∧ impl_DotNumbers.l0 k x y s (x.length : Int) i = some (t, true) := by
  induction d with
  | zero =>
    intro k i s h0 hd hk
    obtain ⟨k, rfl⟩ : ∃ m, k = m + 1 := ⟨k - 1, by omega⟩
    refine ⟨s, ?_, ?_⟩
    · simp only [spec_l01Dot.l0]; rw [if_neg (by omega)]
    · simp only [impl_DotNumbers.l0]; rw [if_neg (by omega)]
  | succ d ih =>
    intro k i s h0 hd hk
    obtain ⟨k, rfl⟩ : ∃ m, k = m + 1 := ⟨k - 1, by omega⟩
    obtain ⟨t, h1, h2⟩ := ih k (i + 1) (dotE s (rd x i) (rd y i)) (by omega) (by omega) (by omega)
    refine ⟨t, ?_, ?_⟩
    · simp only [spec_l01Dot.l0]; rw [if_pos (by omega), if_pos h0, if_pos (by omega), wrap_up (n := x.length) h0 (by omega) (by omega)]; exact h1
    · simp only [impl_DotNumbers.l0]; rw [if_pos (by omega), if_pos h0, if_pos (by omega), if_pos (by omega), wrap_up (n := x.length) h0 (by omega) (by omega)]; exact h2

theorem dots_f (x y : List Int) (hn : x.length ≤ 1048576) (k : Nat) (hk : x.length < k) : ∃ t b, spec_DotNumbers.f (k + 1) x y = some (t, b) ∧ impl_DotNumbers.f (k + 1) x y = some (t, b) := by
  by_cases h : (x.length : Int) ≤ 256
  · by_cases e : (x.length : Int) = (y.length : Int)
    · obtain ⟨t, h1, h2⟩ := dot_loop x y hn (by omega) x.length k 0 0 (by omega) (by omega) hk
      refine ⟨t, true, ?_, ?_⟩
      · have h1' : spec_l01Dot.f (k + 1) x y = some t := spec_l01Dot.mono x y k t h1
        unfold spec_DotNumbers.f spec_l01Few.f
        simp only [Option.bind_some, decide_eq_true h, if_true]
        rw [if_pos e, h1']; rfl
      · unfold impl_DotNumbers.f
        rw [if_neg (by omega), e, bne_self_eq_false]
        simp only [impl_DotNumbers.j0]
        exact h2
    · refine ⟨0, false, ?_, ?_⟩
      · unfold spec_DotNumbers.f spec_l01Few.f
        simp only [Option.bind_some, decide_eq_true h, if_true]
        rw [if_neg e]
      · unfold impl_DotNumbers.f
        rw [if_neg (by omega), bne_iff_ne.mpr e]
        simp only [impl_DotNumbers.j0]
        rfl
  · refine ⟨0, false, ?_, ?_⟩
    · unfold spec_DotNumbers.f spec_l01Few.f
      simp only [Option.bind_some, decide_eq_false h]
      rfl
    · unfold impl_DotNumbers.f
      rw [if_pos (by omega)]
      simp only [impl_DotNumbers.j0]
      rfl

theorem FnExactDotNumbers (l0 l1 : List Int) : ∃ k, laws_FnExactDotNumbers.f k l0 l1 = some true := by
  refine ⟨l0.length + l1.length + 2 + 1, ?_⟩
  unfold laws_FnExactDotNumbers.f
  by_cases h : (l0.length : Int) > 1048576
  · rw [if_pos h]
  · rw [if_neg h]
    by_cases h' : (l1.length : Int) > 1048576
    · rw [if_pos h']
    · rw [if_neg h']
      obtain ⟨t, b, h1, h2⟩ := dots_f l0 l1 (by omega) (l0.length + l1.length + 2) (by omega)
      rw [copy_f l0 (by omega) _ (by omega), copy_f l1 (by omega) _ (by omega)]
      simp only [Option.bind_some]
      rw [h1]
      simp only [Option.bind_some]
      rw [h2]
      simp only [Option.bind_some, same_f, if_true, bne_self_eq_false]
      simp only [laws_FnExactDotNumbers.j0]
      rw [copy_f l0 (by omega) _ (by omega), copy_f l1 (by omega) _ (by omega)]
      simp only [Option.bind_some]
      rw [eq_f l0 (by omega) _ (by omega), eq_f l1 (by omega) _ (by omega)]
      rfl

/-- The walk, joined with the plain law. -/
theorem dotWalk (A : Option Addr) (c : Nat) (l : List Int) (A1 : Option Addr) (c1 : Nat) (l1 : List Int) (w : World) (hr : Kf.C w A l.length l) (hc : l.length ≤ c) (hr1 : Kf.C w A1 l1.length l1) (hc1 : l1.length ≤ c1) :
    Calls Try.prog 5 #[.slice A l.length c, .slice A1 l1.length c1] w fun e w' => e = .returned (.bool true) ∧ Below w.heap.size w w' := by
  obtain ⟨k, h⟩ := FnExactDotNumbers l l1
  exact laws_FnExactDotNumbers.calls k _ _ l _ _ l1 true w hr hc hr1 hc1 h

end Go.Proofs.Ytigcnipgmjmenaa.Pure
