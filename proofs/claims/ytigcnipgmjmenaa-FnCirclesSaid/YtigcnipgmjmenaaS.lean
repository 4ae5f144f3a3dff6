/- Walks: the fraction and the sine of turns. -/
import Derived.Test.YtigcnipgmjmenaaR
import Derived.Test.YtigcnipgmjmenaaFw
import Derived.Deep.LoopGhost
namespace Go.Proofs.Ytigcnipgmjmenaa
open Go.Fl Go.RowKit Ieee
set_option exponentiation.threshold 3000

theorem fraction83 (x : Nat) (h64 : x < 18446744073709551616) (hu : double.units (double.rungOf x) < 2 ^ 1126) (w : World) :
    Calls Try.prog 83 #[.float .f64 x] w (Post64 (fracV x) w) := by
  have hf : double.rungOf x < double.infRung := double.lt_inf_of_units (Nat.le_of_lt hu) (by rw [dinf]; exact two_pow_lt (by decide))
  have hx : Is .f64 x (some x) := Is.fin h64 hf
  have HN := Lib.hid (toIntVal hu).1
  have hw := (toIntVal hu).2
  have hI : Is .f64 (floatOfInt .f64 (wholeOf x)) (some (floatOfInt .f64 (wholeOf x))) := Is.ofInt (by omega)
  obtain ⟨F, hF⟩ : ∃ F, F = fop .sub .f64 (some x) (some (floatOfInt .f64 (wholeOf x))) := ⟨_, rfl⟩
  obtain ⟨V, hV⟩ : ∃ V, V = fracV x := ⟨_, rfl⟩
  have hV' : V = if cmpV .lss .f64 F (some c0) then fop .add .f64 F (some c1) else F := by rw [hV, hF]; rfl
  rw [← hV]
  clear hV
  have HF := Lib.hid hF
  clear hF hu hf
  cases hc : cmpV .lss .f64 F (some c0) with
  | true =>
    rw [hc, if_pos rfl] at hV'
    subst hV'
    have HC := Lib.hid hc
    clear hc
    go_enter Try.func83, Try.ntmps83
    go_wp2_with (first | (refine wpList_ftoi _ _ _ rfl rfl _ _ _ rfl (by kernel_rfl) (by kernel_rfl) HN.out ?_) | (refine wpList_cmd _ _ _ _ _ rfl rfl rfl _ _ _ rfl rfl (by first | assumption | exact Is.const64 (by decide +kernel)) (by first | assumption | exact Is.const64 (by decide +kernel)) HC.out ?_) | (refine wpList_ar _ _ _ _ _ rfl rfl rfl _ _ _ rfl rfl (by first | assumption | exact Is.const64 (by decide +kernel)) (by first | assumption | exact Is.const64 (by decide +kernel)) ?_; intro r n hr; (try rw [← HF.out] at hr)))
    go_ret
    exact Post64.mk (by assumption)
  | false =>
    rw [hc, if_neg (by decide)] at hV'
    subst hV'
    have HC := Lib.hid hc
    clear hc
    go_enter Try.func83, Try.ntmps83
    go_wp2_with (first | (refine wpList_ftoi _ _ _ rfl rfl _ _ _ rfl (by kernel_rfl) (by kernel_rfl) HN.out ?_) | (refine wpList_cmd _ _ _ _ _ rfl rfl rfl _ _ _ rfl rfl (by first | assumption | exact Is.const64 (by decide +kernel)) (by first | assumption | exact Is.const64 (by decide +kernel)) HC.out ?_) | (refine wpList_ar _ _ _ _ _ rfl rfl rfl _ _ _ rfl rfl (by first | assumption | exact Is.const64 (by decide +kernel)) (by first | assumption | exact Is.const64 (by decide +kernel)) ?_; intro r n hr; (try rw [← HF.out] at hr)))
    go_ret
    exact Post64.mk (by assumption)

set_option maxHeartbeats 1000000 in
theorem implSine (x : Nat) (h64 : x < 18446744073709551616) (hu : double.units (double.rungOf x) < 2 ^ 1126) (w : World) :
    Calls Try.prog 77 #[.float .f64 x] w (Post64 (sineF (fracV x)) w) := by
  have C := fun w => fraction83 x h64 hu w
  obtain ⟨F0, hF0⟩ : ∃ F0, F0 = fracV x := ⟨_, rfl⟩
  rw [← hF0] at C ⊢
  clear hF0
  have C0 := Lib.hid C
  clear C hu
  obtain ⟨t, ht⟩ : ∃ t, cmpV .geq .f64 F0 (some half) = t := ⟨_, rfl⟩
  obtain ⟨F1, h1⟩ : ∃ F1, F1 = if t then fop .sub .f64 F0 (some half) else F0 := ⟨_, rfl⟩
  obtain ⟨g, hg⟩ : ∃ g, cmpV .gtr .f64 F1 (some quarter) = g := ⟨_, rfl⟩
  obtain ⟨F2, h2⟩ : ∃ F2, F2 = if g then fop .sub .f64 (some half) F1 else F1 := ⟨_, rfl⟩
  have hs := sineF_way ht h1 hg h2
  obtain ⟨Z, hZ⟩ : ∃ Z, Z = fop .mul .f64 F2 (some tau) := ⟨_, rfl⟩
  obtain ⟨U, hU⟩ : ∃ U, U = fop .mul .f64 Z Z := ⟨_, rfl⟩
  rw [← hZ, ← hU] at hs
  rw [hs]
  have HT := Lib.hid ht
  have HG := Lib.hid hg
  have H1 := Lib.hid h1
  have H2 := Lib.hid h2
  have HZ := Lib.hid hZ
  have HU := Lib.hid hU
  clear hs ht hg h1 h2 hZ hU
  cases t <;> cases g
  all_goals
    first | have H1p := Lib.hid (H1.out.trans (if_pos rfl)) | obtain rfl := H1.out.trans (if_neg (by decide))
    first | have H2p := Lib.hid (H2.out.trans (if_pos rfl)) | obtain rfl := H2.out.trans (if_neg (by decide))
    clear H1 H2
    simp only [if_true, Bool.false_eq_true, if_false]
    go_enter Try.func77, Try.ntmps77
    go_wp2_with (first | (go_at_call 83; refine (C0.out _).mono ?_; rintro e w' ⟨r, n, rfl, hr, rfl⟩; (try rw [← H1p.out] at hr); (try rw [← H2p.out] at hr)) | (refine wpList_cmd _ _ _ _ _ rfl rfl rfl _ _ _ rfl rfl (by first | assumption | exact Is.const64 (by decide +kernel)) (by first | assumption | exact Is.const64 (by decide +kernel)) HT.out ?_) | (refine wpList_cmd _ _ _ _ _ rfl rfl rfl _ _ _ rfl rfl (by first | assumption | exact Is.const64 (by decide +kernel)) (by first | assumption | exact Is.const64 (by decide +kernel)) HG.out ?_) | (refine wpList_ar _ _ _ _ _ rfl rfl rfl _ _ _ rfl rfl (by first | assumption | exact Is.const64 (by decide +kernel)) (by first | assumption | exact Is.const64 (by decide +kernel)) ?_; intro r n hr; (try rw [← H1p.out] at hr); (try rw [← H2p.out] at hr); (try rw [← HZ.out] at hr); (try rw [← HU.out] at hr)))
    go_loopg [7, 8] 9 (fun g vp vk wr => ∃ (i pv kv n : Nat), Hid (g + i = 9) ∧ i ≤ 8 ∧ vk = .float .f64 kv ∧ Is .f64 kv (some (kb (8 - i))) ∧ vp = .float .f64 pv ∧ Is .f64 pv (pI U i) ∧ wr = w.drewN n)
    case atStart => exact ⟨0, _, _, _, Lib.hid rfl, by omega, rfl, (by rw [show 8 - 0 = 8 from rfl, kb_8]; exact Is.const64 (by decide +kernel)), rfl, Is.const64 (by decide +kernel), rfl⟩
    case round =>
      obtain ⟨i, pv, kv, n, hgi, hi, rfl, hk, rfl, hp, rfl⟩ := hrel
      by_cases h1 : 1 ≤ 8 - i
      · have HK := Lib.hid ((kb_geV (8 - i) (by omega)).trans (decide_eq_true h1))
        go_wp2_with (first | (refine wpList_cmd _ _ _ _ _ rfl rfl rfl _ _ _ rfl rfl (by first | assumption | exact Is.const64 (by decide +kernel)) (by first | assumption | exact Is.const64 (by decide +kernel)) HK.out ?_) | (refine wpList_ar _ _ _ _ _ rfl rfl rfl _ _ _ rfl rfl (by first | assumption | exact Is.const64 (by decide +kernel)) (by first | assumption | exact Is.const64 (by decide +kernel)) ?_; intro r n hr))
        go_roundg (gk - 1)
        case measure => have := hgi.out; omega
        case rel => exact ⟨i + 1, _, _, _, Lib.hid (by have := hgi.out; omega), by omega, rfl, (by rw [show 8 - (i + 1) = 8 - i - 1 by omega, ← kb_downV (8 - i) h1 (by omega)]; assumption), rfl, (by show Is .f64 _ (fop .sub .f64 (some c1) (fop .quo .f64 (fop .mul .f64 U (pI U i)) (dV (8 - i)))); rw [← kb_divV (8 - i) h1 (by omega)]; assumption), rfl⟩
      · have HK := Lib.hid ((kb_geV (8 - i) (by omega)).trans (decide_eq_false h1))
        obtain rfl : i = 8 := by omega
        clear h1
        go_wp2_with (first | (refine wpList_cmd _ _ _ _ _ rfl rfl rfl _ _ _ rfl rfl (by first | assumption | exact Is.const64 (by decide +kernel)) (by first | assumption | exact Is.const64 (by decide +kernel)) HK.out ?_) | (refine wpList_ar _ _ _ _ _ rfl rfl rfl _ _ _ rfl rfl (by first | assumption | exact Is.const64 (by decide +kernel)) (by first | assumption | exact Is.const64 (by decide +kernel)) ?_; intro r n hr) | (refine wpList_ne _ _ rfl rfl _ rfl (by assumption) ?_; intro r hr))
        go_ret
        exact Post64.mk (by assumption)
end Go.Proofs.Ytigcnipgmjmenaa
