/- Walks: the reference's sine; the sines of turns. -/
import Derived.Test.YtigcnipgmjmenaaS
import Derived.Test.YtigcnipgmjmenaaU
namespace Go.Proofs.Ytigcnipgmjmenaa
open Go.Fl Go.RowKit Ieee
set_option exponentiation.threshold 3000

theorem nan72 (w : World) : Calls Try.prog 72 #[] w (Post64 none w) := by
  have hc2 := fun n w => from103 n w
  go_enter Try.func72, Try.ntmps72
  go_wp2
  go_ret
  exact Post64.mk0 ⟨by decide +kernel, by decide⟩

theorem narrow105' (b : Nat) (v : Option Nat) (h : Is .f64 b v) (hok : NarrowOk v) (w : World) : Calls Try.prog 105 #[.float .f64 b] w (Post32 (narrow v) w) := by
  have h1 := narrow105 b (by rw [h.1]; exact hok) w
  rw [h.1] at h1
  exact h1

theorem isFinite73 (b : Nat) (w : World) : Calls Try.prog 73 #[.float .f32 b] w fun e w' => e = .returned (.bool (decide (single.rungOf b < single.infRung))) ∧ ∃ n, w' = w.drewN n := by
  go_enter Try.func73, Try.ntmps73
  go_wp2_with (refine wpList_farith _ _ _ _ _ rfl rfl rfl _ _ _ rfl rfl ?_; intro r n hr)
  go_ret
  exact ⟨by rw [← show _ = decide (single.rungOf b < single.infRung) from fin_test .f32 b _ hr]; rfl, _, rfl⟩

set_option maxHeartbeats 2000000 in
theorem specSineFin (x : Nat) (h64 : x < 18446744073709551616) (hf : double.rungOf x < double.infRung) (hbig : bigB x = false) (w : World) :
    Calls Try.prog 107 #[.float .f64 x] w (Post64 (sineF (fracV x)) w) := by
  have hu := not_big hbig
  have hx : Is .f64 x (some x) := Is.fin h64 hf
  have HA := Lib.hid (neq_fin hf)
  have hb := (big_specV (nan_of_fin .f64 hf)).2 hbig
  have HB := Lib.hid hb.1
  have HD := Lib.hid hb.2
  have HN := Lib.hid (toIntVal hu).1
  have hw := (toIntVal hu).2
  have hI : Is .f64 (floatOfInt .f64 (wholeOf x)) (some (floatOfInt .f64 (wholeOf x))) := Is.ofInt (by omega)
  obtain ⟨F, hF⟩ : ∃ F, F = fop .sub .f64 (some x) (some (floatOfInt .f64 (wholeOf x))) := ⟨_, rfl⟩
  obtain ⟨F0, hV⟩ : ∃ V, V = fracV x := ⟨_, rfl⟩
  have hV' : F0 = if cmpV .lss .f64 F (some c0) then fop .add .f64 F (some c1) else F := by rw [hV, hF]; rfl
  rw [← hV]
  clear hV
  have HF := Lib.hid hF
  clear hF hu hf hb hbig
  obtain ⟨c, hc⟩ : ∃ c, cmpV .lss .f64 F (some c0) = c := ⟨_, rfl⟩
  rw [hc] at hV'
  obtain ⟨t, ht⟩ : ∃ t, cmpV .geq .f64 F0 (some half) = t := ⟨_, rfl⟩
  obtain ⟨F1, h1⟩ : ∃ F1, F1 = if t then fop .sub .f64 F0 (some half) else F0 := ⟨_, rfl⟩
  obtain ⟨g, hg⟩ : ∃ g, cmpV .gtr .f64 F1 (some quarter) = g := ⟨_, rfl⟩
  obtain ⟨F2, h2⟩ : ∃ F2, F2 = if g then fop .sub .f64 (some half) F1 else F1 := ⟨_, rfl⟩
  have hs := sineF_way ht h1 hg h2
  obtain ⟨Z, hZ⟩ : ∃ Z, Z = fop .mul .f64 F2 (some tau) := ⟨_, rfl⟩
  obtain ⟨U, hU⟩ : ∃ U, U = fop .mul .f64 Z Z := ⟨_, rfl⟩
  rw [← hZ, ← hU] at hs
  rw [hs]
  have HC := Lib.hid hc
  have HT := Lib.hid ht
  have HG := Lib.hid hg
  have H0 := Lib.hid hV'
  have H1 := Lib.hid h1
  have H2 := Lib.hid h2
  have HZ := Lib.hid hZ
  have HU := Lib.hid hU
  clear hs ht hg h1 h2 hZ hU hc hV'
  cases c <;> cases t <;> cases g
  all_goals
    first | have H0p := Lib.hid (H0.out.trans (if_pos rfl)) | obtain rfl := H0.out.trans (if_neg (by decide))
    first | have H1p := Lib.hid (H1.out.trans (if_pos rfl)) | obtain rfl := H1.out.trans (if_neg (by decide))
    first | have H2p := Lib.hid (H2.out.trans (if_pos rfl)) | obtain rfl := H2.out.trans (if_neg (by decide))
    clear H0 H1 H2
    simp only [if_true, Bool.false_eq_true, if_false]
    go_enter Try.func107, Try.ntmps107
    go_wp2_with (first | (refine wpList_ftoi _ _ _ rfl rfl _ _ _ rfl (by kernel_rfl) (by kernel_rfl) HN.out ?_) | (refine wpList_cmd _ _ _ _ _ rfl rfl rfl _ _ _ rfl rfl (by first | assumption | exact Is.const64 (by decide +kernel)) (by first | assumption | exact Is.const64 (by decide +kernel)) HA.out ?_) | (refine wpList_cmd _ _ _ _ _ rfl rfl rfl _ _ _ rfl rfl (by first | assumption | exact Is.const64 (by decide +kernel)) (by first | assumption | exact Is.const64 (by decide +kernel)) HB.out ?_) | (refine wpList_cmd _ _ _ _ _ rfl rfl rfl _ _ _ rfl rfl (by first | assumption | exact Is.const64 (by decide +kernel)) (by first | assumption | exact Is.const64 (by decide +kernel)) HD.out ?_) | (refine wpList_cmd _ _ _ _ _ rfl rfl rfl _ _ _ rfl rfl (by first | assumption | exact Is.const64 (by decide +kernel)) (by first | assumption | exact Is.const64 (by decide +kernel)) HC.out ?_) | (refine wpList_cmd _ _ _ _ _ rfl rfl rfl _ _ _ rfl rfl (by first | assumption | exact Is.const64 (by decide +kernel)) (by first | assumption | exact Is.const64 (by decide +kernel)) HT.out ?_) | (refine wpList_cmd _ _ _ _ _ rfl rfl rfl _ _ _ rfl rfl (by first | assumption | exact Is.const64 (by decide +kernel)) (by first | assumption | exact Is.const64 (by decide +kernel)) HG.out ?_) | (refine wpList_ar _ _ _ _ _ rfl rfl rfl _ _ _ rfl rfl (by first | assumption | exact Is.const64 (by decide +kernel)) (by first | assumption | exact Is.const64 (by decide +kernel)) ?_; intro r n hr; (try rw [← HF.out] at hr); (try rw [← H0p.out] at hr); (try rw [← H1p.out] at hr); (try rw [← H2p.out] at hr); (try rw [← HZ.out] at hr); (try rw [← HU.out] at hr)))
    go_loopg [7, 8] 9 (fun g vp vk wr => ∃ (i pv n : Nat), Hid (g + i = 9) ∧ i ≤ 8 ∧ vk = .int .i64 (8 - (i : Int)) ∧ vp = .float .f64 pv ∧ Is .f64 pv (pI U i) ∧ wr = w.drewN n)
    case atStart => exact ⟨0, _, _, Lib.hid rfl, by omega, rfl, rfl, Is.const64 (by decide +kernel), rfl⟩
    case round =>
      obtain ⟨i, pv, n, hgi, hi, rfl, rfl, hp, rfl⟩ := hrel
      by_cases h1 : 1 ≤ 8 - (i : Int)
      · have hkv := dV_is i (by omega)
        go_wp2_with (first | (refine wpList_ar _ _ _ _ _ rfl rfl rfl _ _ _ rfl rfl (by first | assumption | exact Is.const64 (by decide +kernel)) (by first | assumption | exact Is.const64 (by decide +kernel)) ?_; intro r n hr))
        go_roundg (gk - 1)
        case measure => have := hgi.out; omega
        case rel => exact ⟨i + 1, _, _, Lib.hid (by have := hgi.out; omega), by omega, (by congr 1; omega), rfl, (by show Is .f64 _ (fop .sub .f64 (some c1) (fop .quo .f64 (fop .mul .f64 U (pI U i)) (dV (8 - i)))); assumption), rfl⟩
      · obtain rfl : i = 8 := by omega
        clear h1
        go_wp2_with (first | (refine wpList_ar _ _ _ _ _ rfl rfl rfl _ _ _ rfl rfl (by first | assumption | exact Is.const64 (by decide +kernel)) (by first | assumption | exact Is.const64 (by decide +kernel)) ?_; intro r n hr) | (refine wpList_ne _ _ rfl rfl _ rfl (by assumption) ?_; intro r hr))
        go_ret
        exact Post64.mk (by assumption)
end Go.Proofs.Ytigcnipgmjmenaa
