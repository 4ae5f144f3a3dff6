/- Walks: phasors. -/
import Derived.Test.YtigcnipgmjmenaaS3
import Derived.Test.YtigcnipgmjmenaaPh
namespace Go.Proofs.Ytigcnipgmjmenaa
open Go.Fl Go.RowKit Ieee
set_option exponentiation.threshold 3000
set_option linter.unusedVariables false
set_option linter.unusedSimpArgs false

theorem isFin82 (x : Nat) (w : World) : Calls Try.prog 82 #[.float .f64 x] w fun e w' => e = .returned (.bool (decide (double.rungOf x < double.infRung))) ∧ ∃ n, w' = w.drewN n := by
  go_enter Try.func82, Try.ntmps82
  go_wp2_with (refine wpList_farith _ _ _ _ _ rfl rfl rfl _ _ _ rfl rfl ?_; intro r n hr)
  go_ret
  exact ⟨by rw [← show _ = decide (double.rungOf x < double.infRung) from fin_test .f64 x _ hr]; rfl, _, rfl⟩

set_option maxRecDepth 100000 in
set_option maxHeartbeats 4000000 in
theorem implPhFin (x : Nat) (h64 : x < 18446744073709551616) (hfx : double.rungOf x < double.infRung) (hbig : bigB x = false) (w : World) :
    Calls Try.prog 40 #[.float .f64 x] w (PostC (phRe (phQ x).2 (phC x) (phS x)) (phIm (phQ x).2 (phC x) (phS x)) w) := by
  have hU : ∃ U, U = phRe (phQ x).2 (phC x) (phS x) := ⟨_, rfl⟩
  have hV : ∃ V, V = phIm (phQ x).2 (phC x) (phS x) := ⟨_, rfl⟩
  obtain ⟨U, hU⟩ := hU
  obtain ⟨V, hV⟩ := hV
  rw [← hU, ← hV]
  have HU := Lib.hid hU
  have HV := Lib.hid hV
  obtain ⟨f0, hF0, hf0⟩ := frac_word (not_big hbig)
  have HF0 := Lib.hid hF0
  have hx : Is .f64 x (some x) := Is.fin h64 hfx
  have C0 := fraction83 x h64 (not_big hbig)
  rw [hF0] at C0
  have HD := Lib.hid (decide_eq_true hfx)
  have HB := Lib.hid ((big_absV (nan_of_fin .f64 hfx)).trans hbig)
  have hab : Is .f64 (x % 9223372036854775808) (some (absB x)) := absB_is (nan_of_fin .f64 hfx)
  clear hU hV hF0 hfx hbig
  go_enter Try.func40, Try.ntmps40
  go_wp2_with (first | (go_at_call 82; refine (isFin82 _ _).mono ?_; rintro e w' ⟨rfl, n, rfl⟩; rw [HD.out]) | (go_at_call 76; refine (abs _ h64 _).mono ?_; rintro e w' ⟨rfl, rfl⟩) | (refine wpList_cmd _ _ _ _ _ rfl rfl rfl _ _ _ rfl rfl (by first | with_reducible assumption | exact Is.const64 (by decide +kernel) | exact Is.const32 (by decide +kernel)) (by first | with_reducible assumption | exact Is.const64 (by decide +kernel) | exact Is.const32 (by decide +kernel)) HB.out ?_) | (go_at_call 83; refine (C0 _).mono ?_; rintro e w' ⟨r, n, rfl, hr, rfl⟩))
  go_loopg [4, 5] 9 (fun g vf vq wr => ∃ (f q fv n : Nat), Hid (g + q = 9) ∧ q ≤ 8 ∧ vq = .int .i64 (q : Int) ∧ vf = .float .f64 fv ∧ Is .f64 fv (some f) ∧ Hid (f ≤ qB q ∨ f = 9223372036854775808) ∧ Hid (phL g (some f) q = phQ x) ∧ wr = w.drewN n)
  case atStart => exact ⟨f0, 0, _, _, Lib.hid rfl, by omega, rfl, rfl, (by first | assumption | (rw [HV0.out]; assumption)), Lib.hid hf0, Lib.hid (by unfold phQ; rw [HF0.out]), rfl⟩
  case round =>
    clear hf0
    obtain ⟨f, q, fv, n, hgq, hq, rfl, rfl, hf, hb, hph, rfl⟩ := hrel
    obtain ⟨g', rfl⟩ : ∃ g', gk = g' + 1 := ⟨gk - 1, by have := hgq.out; omega⟩
    cases hc : cmpV .geq .f64 (some f) (some quarter) with
    | true =>
      have hb' : f ≤ qB q := by
        rcases hb.out with h | h
        · exact h
        · subst h; rw [zero_not_ge] at hc; cases hc
      have hle : f ≤ 4611686018427387904 := Nat.le_trans hb' (qB_le q)
      have hge : quarter ≤ f := by
        rw [geV_self (by omega) (by decide)] at hc; exact of_decide_eq_true hc
      have hq8 : q < 8 := by
        rcases Nat.lt_or_ge q 8 with h | h
        · exact h
        · have : q = 8 := by omega
          subst this
          have h0 : qB 8 = 0 := rfl
          have h1 : (4598175219545276416 : Nat) ≤ f := hge
          omega
      obtain ⟨r1, hr1, hr2⟩ := sub_quarter hq8 hb' hge
      have hph2 : phL g' (some r1) (q + 1) = phQ x := by
        have := hph.out
        simp only [phL, hc, if_true, hr1] at this
        exact this
      have HC := Lib.hid hc
      have HR := Lib.hid hr1
      have HB := Lib.hid (show r1 ≤ qB (q + 1) ∨ r1 = 9223372036854775808 from .inl hr2)
      have HP := Lib.hid hph2
      clear hc hr1 hr2 hph2 hb' hle hge hb hph
      go_wp2_with (first | (refine wpList_cmd _ _ _ _ _ rfl rfl rfl _ _ _ rfl rfl (by first | with_reducible assumption | exact Is.const64 (by decide +kernel) | exact Is.const32 (by decide +kernel)) (by first | with_reducible assumption | exact Is.const64 (by decide +kernel) | exact Is.const32 (by decide +kernel)) HC.out ?_) | (refine wpList_ar _ _ _ _ _ rfl rfl rfl _ _ _ rfl rfl (by first | with_reducible assumption | exact Is.const64 (by decide +kernel) | exact Is.const32 (by decide +kernel)) (by first | with_reducible assumption | exact Is.const64 (by decide +kernel) | exact Is.const32 (by decide +kernel)) ?_; intro r n hr; rw [HR.out] at hr))
      go_roundg g'
      case measure => omega
      case rel => exact ⟨r1, q + 1, _, _, Lib.hid (by have := hgq.out; omega), by omega, rfl, rfl, by assumption, HB, HP, rfl⟩
    | false =>
      have hPH : phQ x = (some f, q) := by
        have := hph.out
        simp only [phL, hc, Bool.false_eq_true, if_false] at this
        exact this.symm
      obtain ⟨hu, h64f⟩ := small_units (f := f) (by
        rcases hb.out with h | h
        · exact .inl (Nat.le_trans h (qB_le q))
        · exact .inr h)
      obtain ⟨a, ha, hau, ha64⟩ := quarter_less hu
      have hab := not_big_of hau (by omega)
      have hfb := not_big_of hu (by omega)
      have hC : phC x = sineF (fracV a) := by unfold phC; rw [hPH, ha]; rfl
      have hS : phS x = sineF (fracV f) := by unfold phS; rw [hPH]; rfl
      have hCb := sineF_bd hab
      have hSb := sineF_bd hfb
      have hff : double.rungOf f < double.infRung := Bd.fin hu (by omega)
      have haf : double.rungOf a < double.infRung := Bd.fin hau (by omega)
      have CA := implSine a ha64 (not_big hab)
      have CF := implSine f h64f (not_big hfb)
      have hfv := hf.some.1.symm
      subst hfv
      have HA := Lib.hid ha
      have HC := Lib.hid hc
      have hU2 := HU.out
      have hV2 := HV.out
      rw [hPH, hC, hS] at hU2 hV2
      obtain ⟨C, hCe⟩ : ∃ C, C = sineF (fracV a) := ⟨_, rfl⟩
      obtain ⟨S, hSe⟩ : ∃ S, S = sineF (fracV f) := ⟨_, rfl⟩
      rw [← hCe] at CA hCb hU2 hV2
      rw [← hSe] at CF hSb hU2 hV2
      have HCA := Lib.hid CA
      have HCF := Lib.hid CF
      have N1 := Lib.hid (narrowOk_of_bd hCb (by omega))
      have N2 := Lib.hid (narrowOk_of_bd hSb (by omega))
      have N3 := Lib.hid (neg_ok hCb)
      have N4 := Lib.hid (neg_ok hSb)
      clear CA CF hPH hu h64f ha hau ha64 hab hfb hC hS hCb hSb hc hCe hSe hb hph hff haf hgq hq
      by_cases q1 : q = 1
      · subst q1
        have HU3 := Lib.hid (hU2.trans (show phRe 1 C S = _ from rfl))
        have HV3 := Lib.hid (hV2.trans (show phIm 1 C S = _ from rfl))
        clear hU2 hV2
        go_wp2_with (first | (refine wpList_cmd _ _ _ _ _ rfl rfl rfl _ _ _ rfl rfl (by first | with_reducible assumption | exact Is.const64 (by decide +kernel) | exact Is.const32 (by decide +kernel)) (by first | with_reducible assumption | exact Is.const64 (by decide +kernel) | exact Is.const32 (by decide +kernel)) HC.out ?_) | (refine wpList_ar _ _ _ _ _ rfl rfl rfl _ _ _ rfl rfl (by first | with_reducible assumption | exact Is.const64 (by decide +kernel) | exact Is.const32 (by decide +kernel)) (by first | with_reducible assumption | exact Is.const64 (by decide +kernel) | exact Is.const32 (by decide +kernel)) ?_; intro r n hr; (try (rw [HA.out] at hr; obtain ⟨rfl, -⟩ := hr.some; clear hr))) | (go_at_call 77; ((with_reducible refine (HCA.out _).mono ?_); rintro e w' ⟨r, n, rfl, hr, rfl⟩)) | (go_at_call 77; ((with_reducible refine (HCF.out _).mono ?_); rintro e w' ⟨r, n, rfl, hr, rfl⟩)) | (refine wpList_na _ _ _ rfl rfl _ rfl (by kernel_rfl) (by kernel_rfl) (by assumption) (by first | exact N1.out | exact N2.out | exact N3.out | exact N4.out) ?_; intro r n hr))
        go_ret
        exact PostC.mk (by rw [HU3.out]; assumption) (by rw [HV3.out]; assumption)
      · by_cases q2 : q = 2
        · subst q2
          clear q1
          have HU3 := Lib.hid (hU2.trans (show phRe 2 C S = _ from rfl))
          have HV3 := Lib.hid (hV2.trans (show phIm 2 C S = _ from rfl))
          clear hU2 hV2
          go_wp2_with (first | (refine wpList_cmd _ _ _ _ _ rfl rfl rfl _ _ _ rfl rfl (by first | with_reducible assumption | exact Is.const64 (by decide +kernel) | exact Is.const32 (by decide +kernel)) (by first | with_reducible assumption | exact Is.const64 (by decide +kernel) | exact Is.const32 (by decide +kernel)) HC.out ?_) | (refine wpList_ar _ _ _ _ _ rfl rfl rfl _ _ _ rfl rfl (by first | with_reducible assumption | exact Is.const64 (by decide +kernel) | exact Is.const32 (by decide +kernel)) (by first | with_reducible assumption | exact Is.const64 (by decide +kernel) | exact Is.const32 (by decide +kernel)) ?_; intro r n hr; (try (rw [HA.out] at hr; obtain ⟨rfl, -⟩ := hr.some; clear hr))) | (go_at_call 77; ((with_reducible refine (HCA.out _).mono ?_); rintro e w' ⟨r, n, rfl, hr, rfl⟩)) | (go_at_call 77; ((with_reducible refine (HCF.out _).mono ?_); rintro e w' ⟨r, n, rfl, hr, rfl⟩)) | (refine wpList_na _ _ _ rfl rfl _ rfl (by kernel_rfl) (by kernel_rfl) (by assumption) (by first | exact N1.out | exact N2.out | exact N3.out | exact N4.out) ?_; intro r n hr))
          go_ret
          exact PostC.mk (by rw [HU3.out]; assumption) (by rw [HV3.out]; assumption)
        · by_cases q3 : q = 3
          · subst q3
            clear q1 q2
            have HU3 := Lib.hid (hU2.trans (show phRe 3 C S = _ from rfl))
            have HV3 := Lib.hid (hV2.trans (show phIm 3 C S = _ from rfl))
            clear hU2 hV2
            go_wp2_with (first | (refine wpList_cmd _ _ _ _ _ rfl rfl rfl _ _ _ rfl rfl (by first | with_reducible assumption | exact Is.const64 (by decide +kernel) | exact Is.const32 (by decide +kernel)) (by first | with_reducible assumption | exact Is.const64 (by decide +kernel) | exact Is.const32 (by decide +kernel)) HC.out ?_) | (refine wpList_ar _ _ _ _ _ rfl rfl rfl _ _ _ rfl rfl (by first | with_reducible assumption | exact Is.const64 (by decide +kernel) | exact Is.const32 (by decide +kernel)) (by first | with_reducible assumption | exact Is.const64 (by decide +kernel) | exact Is.const32 (by decide +kernel)) ?_; intro r n hr; (try (rw [HA.out] at hr; obtain ⟨rfl, -⟩ := hr.some; clear hr))) | (go_at_call 77; ((with_reducible refine (HCA.out _).mono ?_); rintro e w' ⟨r, n, rfl, hr, rfl⟩)) | (go_at_call 77; ((with_reducible refine (HCF.out _).mono ?_); rintro e w' ⟨r, n, rfl, hr, rfl⟩)) | (refine wpList_na _ _ _ rfl rfl _ rfl (by kernel_rfl) (by kernel_rfl) (by assumption) (by first | exact N1.out | exact N2.out | exact N3.out | exact N4.out) ?_; intro r n hr))
            go_ret
            exact PostC.mk (by rw [HU3.out]; assumption) (by rw [HV3.out]; assumption)
          · have HU3 : Hid (U = narrow C) := by unfold phRe at hU2; rw [if_neg q1, if_neg q2, if_neg q3] at hU2; exact hU2
            have HV3 : Hid (V = narrow S) := by unfold phIm at hV2; rw [if_neg q1, if_neg q2, if_neg q3] at hV2; exact hV2
            have d1 : ¬ (q : Int) = 1 := by omega
            have d2 : ¬ (q : Int) = 2 := by omega
            have d3 : ¬ (q : Int) = 3 := by omega
            have b1 : ((q : Int) == 1) = false := by simpa using d1
            have b2 : ((q : Int) == 2) = false := by simpa using d2
            have b3 : ((q : Int) == 3) = false := by simpa using d3
            clear hU2 hV2 q1 q2 q3
            go_wp2_with (first | (refine wpList_cmd _ _ _ _ _ rfl rfl rfl _ _ _ rfl rfl (by first | with_reducible assumption | exact Is.const64 (by decide +kernel) | exact Is.const32 (by decide +kernel)) (by first | with_reducible assumption | exact Is.const64 (by decide +kernel) | exact Is.const32 (by decide +kernel)) HC.out ?_) | (refine wpList_ar _ _ _ _ _ rfl rfl rfl _ _ _ rfl rfl (by first | with_reducible assumption | exact Is.const64 (by decide +kernel) | exact Is.const32 (by decide +kernel)) (by first | with_reducible assumption | exact Is.const64 (by decide +kernel) | exact Is.const32 (by decide +kernel)) ?_; intro r n hr; (try (rw [HA.out] at hr; obtain ⟨rfl, -⟩ := hr.some; clear hr))) | (go_at_call 77; ((with_reducible refine (HCA.out _).mono ?_); rintro e w' ⟨r, n, rfl, hr, rfl⟩)) | (go_at_call 77; ((with_reducible refine (HCF.out _).mono ?_); rintro e w' ⟨r, n, rfl, hr, rfl⟩)) | (refine wpList_na _ _ _ rfl rfl _ rfl (by kernel_rfl) (by kernel_rfl) (by assumption) (by first | exact N1.out | exact N2.out | exact N3.out | exact N4.out) ?_; intro r n hr))
            go_ret
            exact PostC.mk (by rw [HU3.out]; assumption) (by rw [HV3.out]; assumption)

set_option maxRecDepth 100000 in
set_option maxHeartbeats 4000000 in
theorem specPhFin (x : Nat) (h64 : x < 18446744073709551616) (hfx : double.rungOf x < double.infRung) (hbig : bigB x = false) (w : World) :
    Calls Try.prog 81 #[.float .f64 x] w (PostC (phRe (phQ x).2 (phC x) (phS x)) (phIm (phQ x).2 (phC x) (phS x)) w) := by
  have hU : ∃ U, U = phRe (phQ x).2 (phC x) (phS x) := ⟨_, rfl⟩
  have hV : ∃ V, V = phIm (phQ x).2 (phC x) (phS x) := ⟨_, rfl⟩
  obtain ⟨U, hU⟩ := hU
  obtain ⟨V, hV⟩ := hV
  rw [← hU, ← hV]
  have HU := Lib.hid hU
  have HV := Lib.hid hV
  obtain ⟨f0, hF0, hf0⟩ := frac_word (not_big hbig)
  have HF0 := Lib.hid hF0
  have hx : Is .f64 x (some x) := Is.fin h64 hfx
  have HA0 := Lib.hid (neq_fin hfx)
  have hbb := (big_specV (nan_of_fin .f64 hfx)).2 hbig
  have HB0 := Lib.hid hbb.1
  have HD0 := Lib.hid hbb.2
  have HN0 := Lib.hid (toIntVal (not_big hbig)).1
  have hw0 := (toIntVal (not_big hbig)).2
  have hI : Is .f64 (floatOfInt .f64 (wholeOf x)) (some (floatOfInt .f64 (wholeOf x))) := Is.ofInt (by omega)
  obtain ⟨F, hF⟩ : ∃ F, F = fop .sub .f64 (some x) (some (floatOfInt .f64 (wholeOf x))) := ⟨_, rfl⟩
  have hV' : some f0 = if cmpV .lss .f64 F (some c0) then fop .add .f64 F (some c1) else F := by rw [← hF0, hF]; rfl
  have HF := Lib.hid hF
  obtain ⟨c, hcl⟩ : ∃ c, cmpV .lss .f64 F (some c0) = c := ⟨_, rfl⟩
  rw [hcl] at hV'
  have HCL := Lib.hid hcl
  have HVV := Lib.hid hV'
  clear hU hV hF0 hfx hbig hbb hF hcl hV'
  cases c
  all_goals
    first | have HV0 := Lib.hid (HVV.out.trans (if_pos rfl)) | have HV0 := Lib.hid (HVV.out.trans (if_neg (by decide)))
    clear HVV
    go_enter Try.func81, Try.ntmps81
    go_wp2_with (first | (refine wpList_ftoi _ _ _ rfl rfl _ _ _ rfl (by kernel_rfl) (by kernel_rfl) HN0.out ?_) | (refine wpList_cmd _ _ _ _ _ rfl rfl rfl _ _ _ rfl rfl (by first | with_reducible assumption | exact Is.const64 (by decide +kernel) | exact Is.const32 (by decide +kernel)) (by first | with_reducible assumption | exact Is.const64 (by decide +kernel) | exact Is.const32 (by decide +kernel)) HA0.out ?_) | (refine wpList_cmd _ _ _ _ _ rfl rfl rfl _ _ _ rfl rfl (by first | with_reducible assumption | exact Is.const64 (by decide +kernel) | exact Is.const32 (by decide +kernel)) (by first | with_reducible assumption | exact Is.const64 (by decide +kernel) | exact Is.const32 (by decide +kernel)) HB0.out ?_) | (refine wpList_cmd _ _ _ _ _ rfl rfl rfl _ _ _ rfl rfl (by first | with_reducible assumption | exact Is.const64 (by decide +kernel) | exact Is.const32 (by decide +kernel)) (by first | with_reducible assumption | exact Is.const64 (by decide +kernel) | exact Is.const32 (by decide +kernel)) HD0.out ?_) | (refine wpList_cmd _ _ _ _ _ rfl rfl rfl _ _ _ rfl rfl (by first | with_reducible assumption | exact Is.const64 (by decide +kernel) | exact Is.const32 (by decide +kernel)) (by first | with_reducible assumption | exact Is.const64 (by decide +kernel) | exact Is.const32 (by decide +kernel)) HCL.out ?_) | (refine wpList_ar _ _ _ _ _ rfl rfl rfl _ _ _ rfl rfl (by first | with_reducible assumption | exact Is.const64 (by decide +kernel) | exact Is.const32 (by decide +kernel)) (by first | with_reducible assumption | exact Is.const64 (by decide +kernel) | exact Is.const32 (by decide +kernel)) ?_; intro r n hr; (try rw [← HF.out] at hr)))
    go_loopg [3, 4] 9 (fun g vf vq wr => ∃ (f q fv n : Nat), Hid (g + q = 9) ∧ q ≤ 8 ∧ vq = .int .i64 (q : Int) ∧ vf = .float .f64 fv ∧ Is .f64 fv (some f) ∧ Hid (f ≤ qB q ∨ f = 9223372036854775808) ∧ Hid (phL g (some f) q = phQ x) ∧ wr = w.drewN n)
    case atStart => exact ⟨f0, 0, _, _, Lib.hid rfl, by omega, rfl, rfl, (by first | assumption | (rw [HV0.out]; assumption)), Lib.hid hf0, Lib.hid (by unfold phQ; rw [HF0.out]), rfl⟩
    case round =>
      clear hf0
      obtain ⟨f, q, fv, n, hgq, hq, rfl, rfl, hf, hb, hph, rfl⟩ := hrel
      obtain ⟨g', rfl⟩ : ∃ g', gk = g' + 1 := ⟨gk - 1, by have := hgq.out; omega⟩
      cases hc : cmpV .geq .f64 (some f) (some quarter) with
      | true =>
        have hb' : f ≤ qB q := by
          rcases hb.out with h | h
          · exact h
          · subst h; rw [zero_not_ge] at hc; cases hc
        have hle : f ≤ 4611686018427387904 := Nat.le_trans hb' (qB_le q)
        have hge : quarter ≤ f := by
          rw [geV_self (by omega) (by decide)] at hc; exact of_decide_eq_true hc
        have hq8 : q < 8 := by
          rcases Nat.lt_or_ge q 8 with h | h
          · exact h
          · have : q = 8 := by omega
            subst this
            have h0 : qB 8 = 0 := rfl
            have h1 : (4598175219545276416 : Nat) ≤ f := hge
            omega
        obtain ⟨r1, hr1, hr2⟩ := sub_quarter hq8 hb' hge
        have hph2 : phL g' (some r1) (q + 1) = phQ x := by
          have := hph.out
          simp only [phL, hc, if_true, hr1] at this
          exact this
        have HC := Lib.hid hc
        have HR := Lib.hid hr1
        have HB := Lib.hid (show r1 ≤ qB (q + 1) ∨ r1 = 9223372036854775808 from .inl hr2)
        have HP := Lib.hid hph2
        clear hc hr1 hr2 hph2 hb' hle hge hb hph
        go_wp2_with (first | (refine wpList_cmd _ _ _ _ _ rfl rfl rfl _ _ _ rfl rfl (by first | with_reducible assumption | exact Is.const64 (by decide +kernel) | exact Is.const32 (by decide +kernel)) (by first | with_reducible assumption | exact Is.const64 (by decide +kernel) | exact Is.const32 (by decide +kernel)) HC.out ?_) | (refine wpList_ar _ _ _ _ _ rfl rfl rfl _ _ _ rfl rfl (by first | with_reducible assumption | exact Is.const64 (by decide +kernel) | exact Is.const32 (by decide +kernel)) (by first | with_reducible assumption | exact Is.const64 (by decide +kernel) | exact Is.const32 (by decide +kernel)) ?_; intro r n hr; rw [HR.out] at hr))
        go_roundg g'
        case measure => omega
        case rel => exact ⟨r1, q + 1, _, _, Lib.hid (by have := hgq.out; omega), by omega, rfl, rfl, by assumption, HB, HP, rfl⟩
      | false =>
        have hPH : phQ x = (some f, q) := by
          have := hph.out
          simp only [phL, hc, Bool.false_eq_true, if_false] at this
          exact this.symm
        obtain ⟨hu, h64f⟩ := small_units (f := f) (by
          rcases hb.out with h | h
          · exact .inl (Nat.le_trans h (qB_le q))
          · exact .inr h)
        obtain ⟨a, ha, hau, ha64⟩ := quarter_less hu
        have hab := not_big_of hau (by omega)
        have hfb := not_big_of hu (by omega)
        have hC : phC x = sineF (fracV a) := by unfold phC; rw [hPH, ha]; rfl
        have hS : phS x = sineF (fracV f) := by unfold phS; rw [hPH]; rfl
        have hCb := sineF_bd hab
        have hSb := sineF_bd hfb
        have hff : double.rungOf f < double.infRung := Bd.fin hu (by omega)
        have haf : double.rungOf a < double.infRung := Bd.fin hau (by omega)
        have CA := specSineFin a ha64 haf hab
        have CF := specSineFin f h64f hff hfb
        have hfv := hf.some.1.symm
        subst hfv
        have HA := Lib.hid ha
        have HC := Lib.hid hc
        have hU2 := HU.out
        have hV2 := HV.out
        rw [hPH, hC, hS] at hU2 hV2
        obtain ⟨C, hCe⟩ : ∃ C, C = sineF (fracV a) := ⟨_, rfl⟩
        obtain ⟨S, hSe⟩ : ∃ S, S = sineF (fracV f) := ⟨_, rfl⟩
        rw [← hCe] at CA hCb hU2 hV2
        rw [← hSe] at CF hSb hU2 hV2
        have HCA := Lib.hid CA
        have HCF := Lib.hid CF
        have N1 := Lib.hid (narrowOk_of_bd hCb (by omega))
        have N2 := Lib.hid (narrowOk_of_bd hSb (by omega))
        have N3 := Lib.hid (neg_ok hCb)
        have N4 := Lib.hid (neg_ok hSb)
        clear CA CF hPH hu h64f ha hau ha64 hab hfb hC hS hCb hSb hc hCe hSe hb hph hff haf hgq hq
        by_cases q1 : q = 1
        · subst q1
          have HU3 := Lib.hid (hU2.trans (show phRe 1 C S = _ from rfl))
          have HV3 := Lib.hid (hV2.trans (show phIm 1 C S = _ from rfl))
          clear hU2 hV2
          go_wp2_with (first | (refine wpList_cmd _ _ _ _ _ rfl rfl rfl _ _ _ rfl rfl (by first | with_reducible assumption | exact Is.const64 (by decide +kernel) | exact Is.const32 (by decide +kernel)) (by first | with_reducible assumption | exact Is.const64 (by decide +kernel) | exact Is.const32 (by decide +kernel)) HC.out ?_) | (refine wpList_ar _ _ _ _ _ rfl rfl rfl _ _ _ rfl rfl (by first | with_reducible assumption | exact Is.const64 (by decide +kernel) | exact Is.const32 (by decide +kernel)) (by first | with_reducible assumption | exact Is.const64 (by decide +kernel) | exact Is.const32 (by decide +kernel)) ?_; intro r n hr; (try (rw [HA.out] at hr; obtain ⟨rfl, -⟩ := hr.some; clear hr))) | (go_at_call 107; ((with_reducible refine (HCA.out _).mono ?_); rintro e w' ⟨r, n, rfl, hr, rfl⟩)) | (go_at_call 107; ((with_reducible refine (HCF.out _).mono ?_); rintro e w' ⟨r, n, rfl, hr, rfl⟩)) | (go_at_call 105; refine (narrow105' _ _ (by with_reducible assumption) (by first | exact N1.out | exact N2.out | exact N3.out | exact N4.out) _).mono ?_; rintro e w' ⟨r, n, rfl, hr, rfl⟩))
          go_ret
          exact PostC.mk (by rw [HU3.out]; assumption) (by rw [HV3.out]; assumption)
        · by_cases q2 : q = 2
          · subst q2
            clear q1
            have HU3 := Lib.hid (hU2.trans (show phRe 2 C S = _ from rfl))
            have HV3 := Lib.hid (hV2.trans (show phIm 2 C S = _ from rfl))
            clear hU2 hV2
            go_wp2_with (first | (refine wpList_cmd _ _ _ _ _ rfl rfl rfl _ _ _ rfl rfl (by first | with_reducible assumption | exact Is.const64 (by decide +kernel) | exact Is.const32 (by decide +kernel)) (by first | with_reducible assumption | exact Is.const64 (by decide +kernel) | exact Is.const32 (by decide +kernel)) HC.out ?_) | (refine wpList_ar _ _ _ _ _ rfl rfl rfl _ _ _ rfl rfl (by first | with_reducible assumption | exact Is.const64 (by decide +kernel) | exact Is.const32 (by decide +kernel)) (by first | with_reducible assumption | exact Is.const64 (by decide +kernel) | exact Is.const32 (by decide +kernel)) ?_; intro r n hr; (try (rw [HA.out] at hr; obtain ⟨rfl, -⟩ := hr.some; clear hr))) | (go_at_call 107; ((with_reducible refine (HCA.out _).mono ?_); rintro e w' ⟨r, n, rfl, hr, rfl⟩)) | (go_at_call 107; ((with_reducible refine (HCF.out _).mono ?_); rintro e w' ⟨r, n, rfl, hr, rfl⟩)) | (go_at_call 105; refine (narrow105' _ _ (by with_reducible assumption) (by first | exact N1.out | exact N2.out | exact N3.out | exact N4.out) _).mono ?_; rintro e w' ⟨r, n, rfl, hr, rfl⟩))
            go_ret
            exact PostC.mk (by rw [HU3.out]; assumption) (by rw [HV3.out]; assumption)
          · by_cases q3 : q = 3
            · subst q3
              clear q1 q2
              have HU3 := Lib.hid (hU2.trans (show phRe 3 C S = _ from rfl))
              have HV3 := Lib.hid (hV2.trans (show phIm 3 C S = _ from rfl))
              clear hU2 hV2
              go_wp2_with (first | (refine wpList_cmd _ _ _ _ _ rfl rfl rfl _ _ _ rfl rfl (by first | with_reducible assumption | exact Is.const64 (by decide +kernel) | exact Is.const32 (by decide +kernel)) (by first | with_reducible assumption | exact Is.const64 (by decide +kernel) | exact Is.const32 (by decide +kernel)) HC.out ?_) | (refine wpList_ar _ _ _ _ _ rfl rfl rfl _ _ _ rfl rfl (by first | with_reducible assumption | exact Is.const64 (by decide +kernel) | exact Is.const32 (by decide +kernel)) (by first | with_reducible assumption | exact Is.const64 (by decide +kernel) | exact Is.const32 (by decide +kernel)) ?_; intro r n hr; (try (rw [HA.out] at hr; obtain ⟨rfl, -⟩ := hr.some; clear hr))) | (go_at_call 107; ((with_reducible refine (HCA.out _).mono ?_); rintro e w' ⟨r, n, rfl, hr, rfl⟩)) | (go_at_call 107; ((with_reducible refine (HCF.out _).mono ?_); rintro e w' ⟨r, n, rfl, hr, rfl⟩)) | (go_at_call 105; refine (narrow105' _ _ (by with_reducible assumption) (by first | exact N1.out | exact N2.out | exact N3.out | exact N4.out) _).mono ?_; rintro e w' ⟨r, n, rfl, hr, rfl⟩))
              go_ret
              exact PostC.mk (by rw [HU3.out]; assumption) (by rw [HV3.out]; assumption)
            · have HU3 : Hid (U = narrow C) := by unfold phRe at hU2; rw [if_neg q1, if_neg q2, if_neg q3] at hU2; exact hU2
              have HV3 : Hid (V = narrow S) := by unfold phIm at hV2; rw [if_neg q1, if_neg q2, if_neg q3] at hV2; exact hV2
              have d1 : ¬ (q : Int) = 1 := by omega
              have d2 : ¬ (q : Int) = 2 := by omega
              have d3 : ¬ (q : Int) = 3 := by omega
              have b1 : ((q : Int) == 1) = false := by simpa using d1
              have b2 : ((q : Int) == 2) = false := by simpa using d2
              have b3 : ((q : Int) == 3) = false := by simpa using d3
              clear hU2 hV2 q1 q2 q3
              go_wp2_with (first | (refine wpList_cmd _ _ _ _ _ rfl rfl rfl _ _ _ rfl rfl (by first | with_reducible assumption | exact Is.const64 (by decide +kernel) | exact Is.const32 (by decide +kernel)) (by first | with_reducible assumption | exact Is.const64 (by decide +kernel) | exact Is.const32 (by decide +kernel)) HC.out ?_) | (refine wpList_ar _ _ _ _ _ rfl rfl rfl _ _ _ rfl rfl (by first | with_reducible assumption | exact Is.const64 (by decide +kernel) | exact Is.const32 (by decide +kernel)) (by first | with_reducible assumption | exact Is.const64 (by decide +kernel) | exact Is.const32 (by decide +kernel)) ?_; intro r n hr; (try (rw [HA.out] at hr; obtain ⟨rfl, -⟩ := hr.some; clear hr))) | (go_at_call 107; ((with_reducible refine (HCA.out _).mono ?_); rintro e w' ⟨r, n, rfl, hr, rfl⟩)) | (go_at_call 107; ((with_reducible refine (HCF.out _).mono ?_); rintro e w' ⟨r, n, rfl, hr, rfl⟩)) | (go_at_call 105; refine (narrow105' _ _ (by with_reducible assumption) (by first | exact N1.out | exact N2.out | exact N3.out | exact N4.out) _).mono ?_; rintro e w' ⟨r, n, rfl, hr, rfl⟩))
              go_ret
              exact PostC.mk (by rw [HU3.out]; assumption) (by rw [HV3.out]; assumption)

end Go.Proofs.Ytigcnipgmjmenaa
