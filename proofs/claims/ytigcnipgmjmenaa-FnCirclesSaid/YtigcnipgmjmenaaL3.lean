/- Walks: the logarithms of singles: every case. -/
import Derived.Test.YtigcnipgmjmenaaL2
namespace Go.Proofs.Ytigcnipgmjmenaa
open Go.Fl Go.RowKit Ieee
set_option exponentiation.threshold 3000
set_option linter.unusedVariables false
set_option linter.unusedSimpArgs false

theorem isInf121i (w : World) : Calls Try.prog 121 #[.float .f64 9218868437227405312, .int .i64 1] w fun e w' => e = .returned (.bool true) ∧ w = w' := by
  have hr : Is .f64 9218868437227405312 (some 9218868437227405312) := Is.pos (by omega)
  have HC := Lib.hid (show cmpV .gtr .f64 (some 9218868437227405312) (some 9218868437227405311) = true by decide +kernel)
  go_enter Try.func121, Try.ntmps121
  go_wp2_with (first | (refine wpList_cmd _ _ _ _ _ rfl rfl rfl _ _ _ rfl rfl (by first | with_reducible assumption | exact Is.const64 (by decide +kernel) | exact Is.const32 (by decide +kernel)) (by first | with_reducible assumption | exact Is.const64 (by decide +kernel) | exact Is.const32 (by decide +kernel)) HC.out ?_))
  go_ret
  exact ⟨rfl, rfl⟩

theorem ninf71 (w : World) : Calls Try.prog 71 #[.int .i64 (-1)] w (Post64 (some 18442240474082181120) w) := by
  have hc2 := fun n w => from103 n w
  go_enter Try.func71, Try.ntmps71
  go_wp2
  go_ret
  exact Post64.mk0 (Is.const64 (by decide +kernel))

theorem specLogNan (x : Nat) (hx : Is .f64 x none) (w : World) : Calls Try.prog 109 #[.float .f64 x] w (Post64 none w) := by
  have E1 := Lib.hid (neqV_none .f64)
  go_enter Try.func109, Try.ntmps109
  go_wp2_with (first | (refine wpList_cmd _ _ _ _ _ rfl rfl rfl _ _ _ rfl rfl (by first | with_reducible assumption | exact Is.const64 (by decide +kernel) | exact Is.const32 (by decide +kernel)) (by first | with_reducible assumption | exact Is.const64 (by decide +kernel) | exact Is.const32 (by decide +kernel)) E1.out ?_) | (go_at_call 72; refine (nan72 _).mono ?_; rintro e w' ⟨r, n, rfl, hr, rfl⟩))
  go_ret
  exact Post64.mk (by assumption)

theorem specLogNeg (x : Nat) (hx : Is .f64 x (some x)) (hl : cmpV .lss .f64 (some x) (some 0) = true) (w : World) : Calls Try.prog 109 #[.float .f64 x] w (Post64 none w) := by
  have E1 := Lib.hid (neqV_self .f64 x)
  have E2 := Lib.hid hl
  clear hl
  go_enter Try.func109, Try.ntmps109
  go_wp2_with (first | (refine wpList_cmd _ _ _ _ _ rfl rfl rfl _ _ _ rfl rfl (by first | with_reducible assumption | exact Is.const64 (by decide +kernel) | exact Is.const32 (by decide +kernel)) (by first | with_reducible assumption | exact Is.const64 (by decide +kernel) | exact Is.const32 (by decide +kernel)) E1.out ?_) | (refine wpList_cmd _ _ _ _ _ rfl rfl rfl _ _ _ rfl rfl (by first | with_reducible assumption | exact Is.const64 (by decide +kernel) | exact Is.const32 (by decide +kernel)) (by first | with_reducible assumption | exact Is.const64 (by decide +kernel) | exact Is.const32 (by decide +kernel)) E2.out ?_) | (go_at_call 72; refine (nan72 _).mono ?_; rintro e w' ⟨r, n, rfl, hr, rfl⟩))
  go_ret
  exact Post64.mk (by assumption)

theorem specLogZero (x : Nat) (hx : Is .f64 x (some x)) (hl : cmpV .lss .f64 (some x) (some 0) = false) (hz : cmpV .eql .f64 (some x) (some 0) = true) (w : World) :
    Calls Try.prog 109 #[.float .f64 x] w (Post64 (some 18442240474082181120) w) := by
  have E1 := Lib.hid (neqV_self .f64 x)
  have E2 := Lib.hid hl
  have E3 := Lib.hid hz
  clear hl hz
  go_enter Try.func109, Try.ntmps109
  go_wp2_with (first | (refine wpList_cmd _ _ _ _ _ rfl rfl rfl _ _ _ rfl rfl (by first | with_reducible assumption | exact Is.const64 (by decide +kernel) | exact Is.const32 (by decide +kernel)) (by first | with_reducible assumption | exact Is.const64 (by decide +kernel) | exact Is.const32 (by decide +kernel)) E1.out ?_) | (refine wpList_cmd _ _ _ _ _ rfl rfl rfl _ _ _ rfl rfl (by first | with_reducible assumption | exact Is.const64 (by decide +kernel) | exact Is.const32 (by decide +kernel)) (by first | with_reducible assumption | exact Is.const64 (by decide +kernel) | exact Is.const32 (by decide +kernel)) E2.out ?_) | (refine wpList_cmd _ _ _ _ _ rfl rfl rfl _ _ _ rfl rfl (by first | with_reducible assumption | exact Is.const64 (by decide +kernel) | exact Is.const32 (by decide +kernel)) (by first | with_reducible assumption | exact Is.const64 (by decide +kernel) | exact Is.const32 (by decide +kernel)) E3.out ?_) | (go_at_call 71; refine (ninf71 _).mono ?_; rintro e w' ⟨r, n, rfl, hr, rfl⟩))
  go_ret
  exact Post64.mk (by assumption)

theorem specLogInf (w : World) : Calls Try.prog 109 #[.float .f64 9218868437227405312] w (Post64 (some 9218868437227405312) w) := by
  have hx : Is .f64 9218868437227405312 (some 9218868437227405312) := Is.pos (by omega)
  have E1 := Lib.hid (neqV_self .f64 9218868437227405312)
  have E2 := Lib.hid (show cmpV .lss .f64 (some 9218868437227405312) (some 0) = false by decide +kernel)
  have E3 := Lib.hid (show cmpV .eql .f64 (some 9218868437227405312) (some 0) = false by decide +kernel)
  go_enter Try.func109, Try.ntmps109
  go_wp2_with (first | (refine wpList_cmd _ _ _ _ _ rfl rfl rfl _ _ _ rfl rfl (by first | with_reducible assumption | exact Is.const64 (by decide +kernel) | exact Is.const32 (by decide +kernel)) (by first | with_reducible assumption | exact Is.const64 (by decide +kernel) | exact Is.const32 (by decide +kernel)) E1.out ?_) | (refine wpList_cmd _ _ _ _ _ rfl rfl rfl _ _ _ rfl rfl (by first | with_reducible assumption | exact Is.const64 (by decide +kernel) | exact Is.const32 (by decide +kernel)) (by first | with_reducible assumption | exact Is.const64 (by decide +kernel) | exact Is.const32 (by decide +kernel)) E2.out ?_) | (refine wpList_cmd _ _ _ _ _ rfl rfl rfl _ _ _ rfl rfl (by first | with_reducible assumption | exact Is.const64 (by decide +kernel) | exact Is.const32 (by decide +kernel)) (by first | with_reducible assumption | exact Is.const64 (by decide +kernel) | exact Is.const32 (by decide +kernel)) E3.out ?_) | (go_at_call 121; refine (isInf121i _).mono ?_; rintro e w' ⟨rfl, rfl⟩))
  go_ret
  exact Post64.mk0 (by assumption)

def logWide (b : Nat) : Option Nat :=
  if single.nan b then none else if single.rungOf b = 0 then some 18442240474082181120 else if single.isNeg b then none
  else if single.rungOf b < single.infRung then logF (wideN b) else some 9218868437227405312

theorem inf_word {b : Nat} (hb : b < 4294967296) (hn : single.nan b = false) (hs : single.isNeg b = false) (hf : ¬ single.rungOf b < single.infRung) : b = 2139095040 := by
  have hi : single.rungOf b = single.infRung := by
    rw [single.nan_iff (by decide)] at hn
    have : single.rungOf b ≤ single.infRung := by simpa using hn
    omega
  rw [← single.word_of (b := b) hb, hs, hi]; rfl

theorem logS_wide (b : Nat) (hb : b < 4294967296) : NarrowOk (logWide b) ∧ narrow (logWide b) = logS b := by
  unfold logWide logS
  cases hn : single.nan b with
  | true => exact ⟨narrow_none, rfl⟩
  | false =>
    simp only [Bool.false_eq_true, if_false]
    by_cases h0 : single.rungOf b = 0
    · rw [if_pos h0, if_pos h0]; exact ⟨narrow_const (.inr (by decide +kernel)), by decide +kernel⟩
    · rw [if_neg h0, if_neg h0]
      cases hs : single.isNeg b with
      | true => exact ⟨narrow_none, rfl⟩
      | false =>
        simp only [Bool.false_eq_true, if_false]
        by_cases hf : single.rungOf b < single.infRung
        · rw [if_pos hf, if_pos hf]
          have := pos_wide hs h0 hf
          exact ⟨logF_ok this.1 this.2, rfl⟩
        · rw [if_neg hf, if_neg hf]
          refine ⟨narrow_const (.inr (by decide +kernel)), ?_⟩
          rw [inf_word hb hn hs hf]; decide +kernel

theorem specLog109 (x b : Nat) (hb : b < 4294967296) (hx : Is .f64 x (widen (val .f32 b))) (w : World) : Calls Try.prog 109 #[.float .f64 x] w (Post64 (logWide b) w) := by
  unfold logWide
  cases hn : single.nan b with
  | true => rw [val_nan (k := .f32) hn] at hx; exact specLogNan x hx w
  | false =>
    simp only [Bool.false_eq_true, if_false]
    obtain ⟨h1, h2, h3, h4, h5, h6⟩ := wide_signs hn
    rw [h1] at hx
    obtain ⟨rfl, -⟩ := hx.some
    have hl := lssV0 .f64 (wideN b)
    have he := eqlV0 .f64 (wideN b)
    by_cases h0 : single.rungOf b = 0
    · rw [if_pos h0]
      have hz : FloatKind.f64.format.rungOf (wideN b) = 0 := h3.2 h0
      exact specLogZero _ hx (by rw [hl, hz]; rfl) (by rw [he, hz]; rfl) w
    · rw [if_neg h0]
      have hz : ¬ FloatKind.f64.format.rungOf (wideN b) = 0 := fun h => h0 (h3.1 h)
      cases hs : single.isNeg b with
      | true =>
        have hng : FloatKind.f64.format.isNeg (wideN b) = true := h2.trans hs
        exact specLogNeg _ hx (by rw [hl, hng]; simp [hz]) w
      | false =>
        simp only [Bool.false_eq_true, if_false]
        by_cases hf : single.rungOf b < single.infRung
        · rw [if_pos hf]
          have := pos_wide hs h0 hf
          exact specLogPos _ this.1 this.2 w
        · rw [if_neg hf]
          have := inf_word hb hn hs hf
          subst this
          exact specLogInf w

theorem specLog80 (b : Nat) (hb : b < 4294967296) (w : World) : Calls Try.prog 80 #[.float .f32 b] w (Post32 (logS b) w) := by
  have h0 : Is .f32 b (val .f32 b) := Is.of_lt hb
  have C := fun x hx w => specLog109 x b hb hx w
  obtain ⟨hok, hn⟩ := logS_wide b hb
  rw [← hn]
  clear hn
  obtain ⟨V, hV⟩ : ∃ V, V = logWide b := ⟨_, rfl⟩
  rw [← hV] at C hok ⊢
  clear hV
  have C0 := Lib.hid C
  have HOK := Lib.hid hok
  clear C hok
  go_enter Try.func80, Try.ntmps80
  go_wp2_with (first | (refine wpList_wi _ _ _ rfl rfl _ rfl (by kernel_rfl) (by kernel_rfl) (by assumption) ?_; intro r n hr) | (go_at_call 109; refine (C0.out _ (by assumption) _).mono ?_; rintro e w' ⟨r, n, rfl, hr, rfl⟩) | (go_at_call 105; refine (narrow105' _ _ (by assumption) HOK.out _).mono ?_; rintro e w' ⟨r, n, rfl, hr, rfl⟩))
  go_ret
  exact Post32.mk (by assumption)

theorem specLog38 (b : Nat) (hb : b < 4294967296) (w : World) : Calls Try.prog 38 #[.float .f32 b] w (Post32 (logS b) w) := by
  have C0 := Lib.hid (specLog80 b hb)
  go_enter Try.func38, Try.ntmps38
  go_wp2_with (first | (go_at_call 80; refine (C0.out _).mono ?_; rintro e w' ⟨r, n, rfl, hr, rfl⟩))
  go_ret
  exact Post32.mk (by assumption)

theorem implLogNan (b : Nat) (hx : Is .f32 b none) (w : World) : Calls Try.prog 33 #[.float .f32 b] w (Post32 none w) := by
  have E1 := Lib.hid (show cmpV .eql .f32 none (some 0) = false from rfl)
  have E2 := Lib.hid (show cmpV .lss .f32 none (some 0) = false from rfl)
  have E3 := Lib.hid (neqV_none .f32)
  go_enter Try.func33, Try.ntmps33
  go_wp2_with (first | (refine wpList_cmd _ _ _ _ _ rfl rfl rfl _ _ _ rfl rfl (by first | with_reducible assumption | exact Is.const64 (by decide +kernel) | exact Is.const32 (by decide +kernel)) (by first | with_reducible assumption | exact Is.const64 (by decide +kernel) | exact Is.const32 (by decide +kernel)) E1.out ?_) | (refine wpList_cmd _ _ _ _ _ rfl rfl rfl _ _ _ rfl rfl (by first | with_reducible assumption | exact Is.const64 (by decide +kernel) | exact Is.const32 (by decide +kernel)) (by first | with_reducible assumption | exact Is.const64 (by decide +kernel) | exact Is.const32 (by decide +kernel)) E2.out ?_) | (refine wpList_cmd _ _ _ _ _ rfl rfl rfl _ _ _ rfl rfl (by first | with_reducible assumption | exact Is.const64 (by decide +kernel) | exact Is.const32 (by decide +kernel)) (by first | with_reducible assumption | exact Is.const64 (by decide +kernel) | exact Is.const32 (by decide +kernel)) E3.out ?_) | (go_at_call 72; refine (nan72 _).mono ?_; rintro e w' ⟨r, n, rfl, hr, rfl⟩) | (refine wpList_na _ _ _ rfl rfl _ rfl (by kernel_rfl) (by kernel_rfl) (by assumption) narrow_none ?_; intro r n hr))
  go_ret
  exact Post32.mk (by assumption)

theorem implLogZero (b : Nat) (hx : Is .f32 b (some b)) (hz : cmpV .eql .f32 (some b) (some 0) = true) (w : World) : Calls Try.prog 33 #[.float .f32 b] w (Post32 (some 4286578688) w) := by
  have E1 := Lib.hid hz
  have HOK := Lib.hid (show NarrowOk (some 18442240474082181120) from narrow_const (.inr (by decide +kernel)))
  have HN := Lib.hid (show narrow (some 18442240474082181120) = some 4286578688 by decide +kernel)
  clear hz
  go_enter Try.func33, Try.ntmps33
  go_wp2_with (first | (refine wpList_cmd _ _ _ _ _ rfl rfl rfl _ _ _ rfl rfl (by first | with_reducible assumption | exact Is.const64 (by decide +kernel) | exact Is.const32 (by decide +kernel)) (by first | with_reducible assumption | exact Is.const64 (by decide +kernel) | exact Is.const32 (by decide +kernel)) E1.out ?_) | (go_at_call 71; refine (ninf71 _).mono ?_; rintro e w' ⟨r, n, rfl, hr, rfl⟩) | (refine wpList_na _ _ _ rfl rfl _ rfl (by kernel_rfl) (by kernel_rfl) (by assumption) HOK.out ?_; intro r n hr))
  go_ret
  exact Post32.mk (by rw [← HN.out]; assumption)

theorem implLogNeg (b : Nat) (hx : Is .f32 b (some b)) (hz : cmpV .eql .f32 (some b) (some 0) = false) (hl : cmpV .lss .f32 (some b) (some 0) = true) (w : World) :
    Calls Try.prog 33 #[.float .f32 b] w (Post32 none w) := by
  have E1 := Lib.hid hz
  have E2 := Lib.hid hl
  clear hz hl
  go_enter Try.func33, Try.ntmps33
  go_wp2_with (first | (refine wpList_cmd _ _ _ _ _ rfl rfl rfl _ _ _ rfl rfl (by first | with_reducible assumption | exact Is.const64 (by decide +kernel) | exact Is.const32 (by decide +kernel)) (by first | with_reducible assumption | exact Is.const64 (by decide +kernel) | exact Is.const32 (by decide +kernel)) E1.out ?_) | (refine wpList_cmd _ _ _ _ _ rfl rfl rfl _ _ _ rfl rfl (by first | with_reducible assumption | exact Is.const64 (by decide +kernel) | exact Is.const32 (by decide +kernel)) (by first | with_reducible assumption | exact Is.const64 (by decide +kernel) | exact Is.const32 (by decide +kernel)) E2.out ?_) | (go_at_call 72; refine (nan72 _).mono ?_; rintro e w' ⟨r, n, rfl, hr, rfl⟩) | (refine wpList_na _ _ _ rfl rfl _ rfl (by kernel_rfl) (by kernel_rfl) (by assumption) narrow_none ?_; intro r n hr))
  go_ret
  exact Post32.mk (by assumption)

theorem implLogInf (w : World) : Calls Try.prog 33 #[.float .f32 2139095040] w (Post32 (some 2139095040) w) := by
  have hx : Is .f32 2139095040 (some 2139095040) := Is.const32 (by decide +kernel)
  have E1 := Lib.hid (show cmpV .eql .f32 (some 2139095040) (some 0) = false by decide +kernel)
  have E2 := Lib.hid (show cmpV .lss .f32 (some 2139095040) (some 0) = false by decide +kernel)
  have E3 := Lib.hid (neqV_self .f32 2139095040)
  have HD := Lib.hid (show decide (single.rungOf 2139095040 < single.infRung) = false by decide +kernel)
  go_enter Try.func33, Try.ntmps33
  go_wp2_with (first | (refine wpList_cmd _ _ _ _ _ rfl rfl rfl _ _ _ rfl rfl (by first | with_reducible assumption | exact Is.const64 (by decide +kernel) | exact Is.const32 (by decide +kernel)) (by first | with_reducible assumption | exact Is.const64 (by decide +kernel) | exact Is.const32 (by decide +kernel)) E1.out ?_) | (refine wpList_cmd _ _ _ _ _ rfl rfl rfl _ _ _ rfl rfl (by first | with_reducible assumption | exact Is.const64 (by decide +kernel) | exact Is.const32 (by decide +kernel)) (by first | with_reducible assumption | exact Is.const64 (by decide +kernel) | exact Is.const32 (by decide +kernel)) E2.out ?_) | (refine wpList_cmd _ _ _ _ _ rfl rfl rfl _ _ _ rfl rfl (by first | with_reducible assumption | exact Is.const64 (by decide +kernel) | exact Is.const32 (by decide +kernel)) (by first | with_reducible assumption | exact Is.const64 (by decide +kernel) | exact Is.const32 (by decide +kernel)) E3.out ?_) | (go_at_call 73; refine (isFinite73 _ _).mono ?_; rintro e w' ⟨rfl, n, rfl⟩; rw [HD.out]))
  go_ret
  exact Post32.mk (by assumption)

theorem implLogPos (b : Nat) (hx : Is .f32 b (some b)) (hv : val .f32 b = some b) (hz : cmpV .eql .f32 (some b) (some 0) = false) (hl : cmpV .lss .f32 (some b) (some 0) = false) (hf : single.rungOf b < single.infRung)
    (h0 : 874 * 4503599627370496 ≤ wideN b) (h1 : wideN b < 1151 * 4503599627370496) (w : World) : Calls Try.prog 33 #[.float .f32 b] w (Post32 (narrow (logF (wideN b))) w) := by
  have E1 := Lib.hid hz
  have E2 := Lib.hid hl
  have E3 := Lib.hid (neqV_self .f32 b)
  have HD := Lib.hid (decide_eq_true hf)
  have HW : Hid (widen (some b) = some (wideN b)) := rfl
  have C0 := Lib.hid (implLog _ h0 h1)
  have HOK := Lib.hid (logF_ok h0 h1)
  clear hz hl hf h0 h1 hv
  go_enter Try.func33, Try.ntmps33
  go_wp2_with (first | (refine wpList_cmd _ _ _ _ _ rfl rfl rfl _ _ _ rfl rfl (by first | with_reducible assumption | exact Is.const64 (by decide +kernel) | exact Is.const32 (by decide +kernel)) (by first | with_reducible assumption | exact Is.const64 (by decide +kernel) | exact Is.const32 (by decide +kernel)) E1.out ?_) | (refine wpList_cmd _ _ _ _ _ rfl rfl rfl _ _ _ rfl rfl (by first | with_reducible assumption | exact Is.const64 (by decide +kernel) | exact Is.const32 (by decide +kernel)) (by first | with_reducible assumption | exact Is.const64 (by decide +kernel) | exact Is.const32 (by decide +kernel)) E2.out ?_) | (refine wpList_cmd _ _ _ _ _ rfl rfl rfl _ _ _ rfl rfl (by first | with_reducible assumption | exact Is.const64 (by decide +kernel) | exact Is.const32 (by decide +kernel)) (by first | with_reducible assumption | exact Is.const64 (by decide +kernel) | exact Is.const32 (by decide +kernel)) E3.out ?_) | (go_at_call 73; refine (isFinite73 _ _).mono ?_; rintro e w' ⟨rfl, n, rfl⟩; rw [HD.out]) | (refine wpList_wi _ _ _ rfl rfl _ rfl (by kernel_rfl) (by kernel_rfl) (by assumption) ?_; intro r n hr; rw [HW.out] at hr; obtain ⟨rfl, -⟩ := hr.some; clear hr) | (go_at_call 74; refine (C0.out _).mono ?_; rintro e w' ⟨r, n, rfl, hr, rfl⟩) | (refine wpList_na _ _ _ rfl rfl _ rfl (by kernel_rfl) (by kernel_rfl) (by assumption) HOK.out ?_; intro r n hr))
  go_ret
  exact Post32.mk (by assumption)

theorem implLog33 (b : Nat) (hb : b < 4294967296) (w : World) : Calls Try.prog 33 #[.float .f32 b] w (Post32 (logS b) w) := by
  unfold logS
  have hx : Is .f32 b (val .f32 b) := Is.of_lt hb
  cases hn : single.nan b with
  | true => rw [val_nan (k := .f32) hn] at hx; exact implLogNan b hx w
  | false =>
    simp only [Bool.false_eq_true, if_false]
    have hv := val_num (k := .f32) hn
    rw [hv] at hx
    have hl := lssV0 .f32 b
    have he := eqlV0 .f32 b
    by_cases h0 : single.rungOf b = 0
    · rw [if_pos h0]
      exact implLogZero b hx (by rw [he]; exact decide_eq_true h0) w
    · rw [if_neg h0]
      have he' : cmpV .eql .f32 (some b) (some 0) = false := by rw [he]; exact decide_eq_false h0
      cases hs : single.isNeg b with
      | true => exact implLogNeg b hx he' (by rw [hl, show FloatKind.f32.format.isNeg b = true from hs, show decide (FloatKind.f32.format.rungOf b ≠ 0) = true from decide_eq_true h0]; rfl) w
      | false =>
        simp only [Bool.false_eq_true, if_false]
        have hl' : cmpV .lss .f32 (some b) (some 0) = false := by rw [hl, show FloatKind.f32.format.isNeg b = false from hs, Bool.and_false]
        by_cases hf : single.rungOf b < single.infRung
        · rw [if_pos hf]
          have := pos_wide hs h0 hf
          exact implLogPos b hx hv he' hl' hf this.1 this.2 w
        · rw [if_neg hf]
          have := inf_word hb hn hs hf
          subst this
          exact implLogInf w

theorem logWalk (a0 : Nat) (w : World) (w0 : (Lit.float .f32 a0).wf = true) :
    Calls Try.prog 11 #[.float .f32 a0] w fun e w' => e = .returned (.bool true) ∧ Below w.heap.size w w' := by
  have hb := lt32 w0
  clear w0
  have C1 := Lib.hid (specLog38 _ hb)
  have C2 := Lib.hid (implLog33 _ hb)
  go_enter Try.func11, Try.ntmps11
  go_wp2_with (first | (go_at_call 38; refine (C1.out _).mono ?_; rintro e w' ⟨rW, nW, rfl, hW, rfl⟩) | (go_at_call 33; refine (C2.out _).mono ?_; rintro e w' ⟨rG, nG, rfl, hG, rfl⟩) | (refine wpList_widen _ _ _ rfl rfl _ rfl (by kernel_rfl) (by kernel_rfl) ?_; intro r n hr) | (go_at_call 19; refine (sameWide _ _ ‹_› ‹_› hG hW _).mono ?_; rintro e w' ⟨rfl, n, rfl⟩))
  go_ret
  exact ⟨rfl, below_drewN (Below.refl _ _) _⟩
end Go.Proofs.Ytigcnipgmjmenaa
