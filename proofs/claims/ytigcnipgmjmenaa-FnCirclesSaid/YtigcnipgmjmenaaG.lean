/- Walks: the angle of a point. -/
import Derived.Test.YtigcnipgmjmenaaS3
import Derived.Test.YtigcnipgmjmenaaFz
namespace Go.Proofs.Ytigcnipgmjmenaa
open Go.Fl Go.RowKit Ieee
set_option exponentiation.threshold 3000
set_option linter.unusedVariables false
set_option linter.unusedSimpArgs false

theorem sqrt79' (x : Nat) (v : Option Nat) (h : Is .f64 x v) (w : World) : Calls Try.prog 79 #[.float .f64 x] w (Post64 (fsqrt v) w) := by
  have h1 := sqrt79 x w
  rw [h.1] at h1
  exact h1

set_option maxRecDepth 100000 in
set_option maxHeartbeats 4000000 in
theorem implAngle (a0 a1 : Nat) (hb0 : a0 < 4294967296) (hb1 : a1 < 4294967296) (hf0 : single.rungOf a0 < single.infRung) (hf1 : single.rungOf a1 < single.infRung) (hnz : single.rungOf a1 ≠ 0 ∨ single.rungOf a0 ≠ 0) (w : World) :
    Calls Try.prog 45 #[.float .f32 a0, .float .f32 a1] w (Post32 (narrow (angF (wideN a0) (wideN a1))) w) := by
  have hy0 : Is .f32 a0 (some a0) := Is.of_lt hb0 |>.trans' (val_num (k := .f32) (nan_of_fin .f32 hf0))
  have hx0 : Is .f32 a1 (some a1) := Is.of_lt hb1 |>.trans' (val_num (k := .f32) (nan_of_fin .f32 hf1))
  obtain ⟨hw0, hY, hy64, hyn, -⟩ := wideN_fin hf0
  obtain ⟨hw1, hX, hx64, hxn, -⟩ := wideN_fin hf1
  have hcy := (wide_signs (nan_of_fin .f32 hf0)).2.2.1
  have hcx := (wide_signs (nan_of_fin .f32 hf1)).2.2.1
  have hay : Is .f64 (wideN a0 % 9223372036854775808) (some (absB (wideN a0))) := absB_is (nan_of_fin .f64 hY)
  have hax : Is .f64 (wideN a1 % 9223372036854775808) (some (absB (wideN a1))) := absB_is (nan_of_fin .f64 hX)
  have hyw : Is .f64 (wideN a0) (some (wideN a0)) := Is.fin hy64 hY
  have hxw : Is .f64 (wideN a1) (some (wideN a1)) := Is.fin hx64 hX
  have HOK := Lib.hid (narrowOk_of_bd (bd_angF hY hX) (by omega))
  obtain ⟨V, hV⟩ : ∃ V, V = angF (wideN a0) (wideN a1) := ⟨_, rfl⟩
  obtain ⟨T0, hT0⟩ : ∃ T0, T0 = t0V (wideN a0) (wideN a1) := ⟨_, rfl⟩
  obtain ⟨ov, hov⟩ : ∃ ov, overB (wideN a0) (wideN a1) = ov := ⟨_, rfl⟩
  obtain ⟨xn, hxneg⟩ : ∃ xn, cmpV .lss .f64 (some (wideN a1)) (some c0) = xn := ⟨_, rfl⟩
  obtain ⟨yn, hyneg⟩ : ∃ yn, cmpV .lss .f64 (some (wideN a0)) (some c0) = yn := ⟨_, rfl⟩
  have HV : Hid (V = turn3 yn (turn2 xn (turn1 ov (ang0 (tI T0 3))))) := by
    rw [hV, hT0, ← hov, ← hxneg, ← hyneg]; exact rfl
  have hT0' : T0 = if ov then fop .quo .f64 (some (absB (wideN a1))) (some (absB (wideN a0))) else fop .quo .f64 (some (absB (wideN a0))) (some (absB (wideN a1))) := by
    rw [hT0, ← hov]; exact rfl
  have HO : Hid (cmpV .gtr .f64 (some (absB (wideN a0))) (some (absB (wideN a1))) = ov) := hov
  have HX : Hid (cmpV .lss .f32 (some a1) (some 0) = xn) := by
    rw [← hxneg]; exact (lss_wide hf1).symm
  have HY : Hid (cmpV .lss .f32 (some a0) (some 0) = yn) := by
    rw [← hyneg]; exact (lss_wide hf0).symm
  have HD0 := Lib.hid (decide_eq_true hf0)
  have HD1 := Lib.hid (decide_eq_true hf1)
  have HW0 : Hid (widen (val .f32 a0) = some (wideN a0)) := hw0
  have HW1 : Hid (widen (val .f32 a1) = some (wideN a1)) := hw1
  rw [val_num (k := .f32) (nan_of_fin .f32 hf0)] at HW0
  rw [val_num (k := .f32) (nan_of_fin .f32 hf1)] at HW1
  rw [← hV] at HOK ⊢
  have e1 := eqlV0 .f32 a1
  have e0 := eqlV0 .f32 a0
  obtain ⟨z1, hz1⟩ : ∃ z1, decide (FloatKind.f32.format.rungOf a1 = 0) = z1 := ⟨_, rfl⟩
  obtain ⟨z0, hz0⟩ : ∃ z0, decide (FloatKind.f32.format.rungOf a0 = 0) = z0 := ⟨_, rfl⟩
  have hzz : z1 = false ∨ z0 = false := by
    rcases hnz with h | h
    · left; rw [← hz1]; exact decide_eq_false h
    · right; rw [← hz0]; exact decide_eq_false h
  have Z1 := Lib.hid (e1.trans hz1)
  have Z0 := Lib.hid (e0.trans hz0)
  have HTT := Lib.hid hT0'
  clear hw0 hw1 hY hX hyn hxn hcy hcx hV hT0 hov hxneg hyneg e1 e0 hz1 hz0 hf0 hf1 hnz hT0'
  have hz2 : z1 = true → z0 = false := by
    rintro rfl
    rcases hzz with h | h
    · cases h
    · exact h
  clear hzz
  cases z1
  all_goals
    (try obtain rfl := hz2 rfl)
    clear hz2
    cases ov
  all_goals
    have HT0 := Lib.hid (HTT.out.trans rfl)
    simp only [if_true, Bool.false_eq_true, if_false] at HT0
    clear HTT

    go_enter Try.func45, Try.ntmps45
    go_wp2_with (first | (go_at_call 73; refine (isFinite73 _ _).mono ?_; rintro e w' ⟨rfl, n, rfl⟩; (first | rw [HD0.out] | rw [HD1.out])) | (refine wpList_cmd _ _ _ _ _ rfl rfl rfl _ _ _ rfl rfl (by first | with_reducible assumption | exact Is.const64 (by decide +kernel) | exact Is.const32 (by decide +kernel)) (by first | with_reducible assumption | exact Is.const64 (by decide +kernel) | exact Is.const32 (by decide +kernel)) Z1.out ?_) | (refine wpList_cmd _ _ _ _ _ rfl rfl rfl _ _ _ rfl rfl (by first | with_reducible assumption | exact Is.const64 (by decide +kernel) | exact Is.const32 (by decide +kernel)) (by first | with_reducible assumption | exact Is.const64 (by decide +kernel) | exact Is.const32 (by decide +kernel)) Z0.out ?_) | (refine wpList_wi _ _ _ rfl rfl _ rfl (by kernel_rfl) (by kernel_rfl) (by assumption) ?_; intro r n hr; (first | rw [HW0.out] at hr | rw [HW1.out] at hr); obtain ⟨rfl, -⟩ := hr.some; clear hr) | (go_at_call 76; refine (abs _ (by first | exact hy64 | exact hx64) _).mono ?_; rintro e w' ⟨rfl, rfl⟩) | (refine wpList_cmd _ _ _ _ _ rfl rfl rfl _ _ _ rfl rfl (by first | with_reducible assumption | exact Is.const64 (by decide +kernel) | exact Is.const32 (by decide +kernel)) (by first | with_reducible assumption | exact Is.const64 (by decide +kernel) | exact Is.const32 (by decide +kernel)) HO.out ?_) | (refine wpList_ar _ _ _ _ _ rfl rfl rfl _ _ _ rfl rfl (by first | with_reducible assumption | exact Is.const64 (by decide +kernel) | exact Is.const32 (by decide +kernel)) (by first | with_reducible assumption | exact Is.const64 (by decide +kernel) | exact Is.const32 (by decide +kernel)) ?_; intro r n hr; (try rw [← HT0.out] at hr)))
    go_loopg [7, 43] 4 (fun g vt vc wr => ∃ (i tv n : Nat), Hid (g + i = 4) ∧ i ≤ 3 ∧ vc = .int .i64 (i : Int) ∧ vt = .float .f64 tv ∧ Is .f64 tv (tI T0 i) ∧ wr = w.drewN n)
    case atStart => exact ⟨0, _, _, Lib.hid rfl, by omega, rfl, rfl, (by show Is .f64 _ T0; assumption), rfl⟩
    case round =>
      obtain ⟨i, tv, n, hgi, hi, rfl, rfl, ht, rfl⟩ := hrel
      by_cases h3 : (i : Int) < 3
      · go_wp2_with (first | (refine wpList_ar _ _ _ _ _ rfl rfl rfl _ _ _ rfl rfl (by first | with_reducible assumption | exact Is.const64 (by decide +kernel) | exact Is.const32 (by decide +kernel)) (by first | with_reducible assumption | exact Is.const64 (by decide +kernel) | exact Is.const32 (by decide +kernel)) ?_; intro r n hr) | (go_at_call 79; refine (sqrt79' _ _ (by with_reducible assumption) _).mono ?_; rintro e w' ⟨r, n, rfl, hr, rfl⟩))
        go_roundg (gk - 1)
        case measure => have := hgi.out; omega
        case rel => exact ⟨i + 1, _, _, Lib.hid (by have := hgi.out; omega), by omega, (by congr 1), rfl, (by show Is .f64 _ (Go.Fl.stepT (tI T0 i)); unfold Go.Fl.stepT; assumption), rfl⟩
      · obtain rfl : i = 3 := by omega
        clear h3
        obtain ⟨T, hT⟩ : ∃ T, T = tI T0 3 := ⟨_, rfl⟩
        obtain ⟨U, hU⟩ : ∃ U, U = fop .mul .f64 T T := ⟨_, rfl⟩
        obtain ⟨A, hA⟩ : ∃ A, A = fop .quo .f64 (fop .mul .f64 (some c8) (fop .mul .f64 T (srI .sub 15 U 8))) (some tau) := ⟨_, rfl⟩
        have h2 : ang0 (tI T0 3) = A := by rw [hA, hU, hT]; rfl
        have hv2 := HV.out
        rw [h2] at hv2
        have HVA := Lib.hid hv2
        clear h2 hv2
        rw [← hT] at ht
        have HU := Lib.hid hU
        have HA := Lib.hid hA
        clear hT hU hA
        go_wp2_with (first | (refine wpList_ar _ _ _ _ _ rfl rfl rfl _ _ _ rfl rfl (by first | with_reducible assumption | exact Is.const64 (by decide +kernel) | exact Is.const32 (by decide +kernel)) (by first | with_reducible assumption | exact Is.const64 (by decide +kernel) | exact Is.const32 (by decide +kernel)) ?_; intro r n hr; (try rw [← HU.out] at hr)))
        go_loopg [9, 10] 10 (fun g vp vk wr => ∃ (i pv n : Nat), Hid (g + i = 10) ∧ i ≤ 8 ∧ (∃ kv, vk = .float .f64 kv ∧ Is .f64 kv (some (ko 15 i))) ∧ vp = .float .f64 pv ∧ Is .f64 pv (srI .sub 15 U i) ∧ wr = w.drewN n)
        case atStart => exact ⟨0, _, _, Lib.hid rfl, by omega, ⟨_, rfl, by rw [show ko 15 0 = 4624633867356078080 by decide +kernel]; exact Is.const64 (by decide +kernel)⟩, rfl, Is.const64 (by decide +kernel), rfl⟩
        case round =>
          obtain ⟨i, pv, n, hgi, hi, ⟨kv, rfl, hk⟩, rfl, hp, rfl⟩ := hrel
          by_cases h1 : i ≤ 7
          · have HK := Lib.hid ((ko15_ge i (by omega)).trans (decide_eq_true h1))
            skip
            go_wp2_with (first | (refine wpList_cmd _ _ _ _ _ rfl rfl rfl _ _ _ rfl rfl (by first | with_reducible assumption | exact Is.const64 (by decide +kernel) | exact Is.const32 (by decide +kernel)) (by first | with_reducible assumption | exact Is.const64 (by decide +kernel) | exact Is.const32 (by decide +kernel)) HK.out ?_) | (refine wpList_ar _ _ _ _ _ rfl rfl rfl _ _ _ rfl rfl (by first | with_reducible assumption | exact Is.const64 (by decide +kernel) | exact Is.const32 (by decide +kernel)) (by first | with_reducible assumption | exact Is.const64 (by decide +kernel) | exact Is.const32 (by decide +kernel)) ?_; intro r n hr))
            go_roundg (gk - 1)
            case measure => have := hgi.out; omega
            case rel => exact ⟨i + 1, _, _, Lib.hid (by have := hgi.out; omega), by omega, ⟨_, rfl, by rw [← ko15_dn i (by omega)]; assumption⟩, rfl, (by show Is .f64 _ (fop .sub .f64 (fop .quo .f64 (some c1) (some (kb (15 - 2 * i)))) (fop .mul .f64 U (srI .sub 15 U i))); rw [← ko15_kb i (by omega)]; assumption), rfl⟩
          · have HK := Lib.hid ((ko15_ge i (by omega)).trans (decide_eq_false h1))
            obtain rfl : i = 8 := by omega
            clear h1
            cases xn <;> cases yn
            all_goals
              have HW := Lib.hid (HVA.out.trans rfl)
              simp only [turn1, turn2, turn3, if_true, Bool.false_eq_true, if_false] at HW
              clear HVA
              go_wp2_with (first | (refine wpList_cmd _ _ _ _ _ rfl rfl rfl _ _ _ rfl rfl (by first | with_reducible assumption | exact Is.const64 (by decide +kernel) | exact Is.const32 (by decide +kernel)) (by first | with_reducible assumption | exact Is.const64 (by decide +kernel) | exact Is.const32 (by decide +kernel)) HK.out ?_) | (refine wpList_cmd _ _ _ _ _ rfl rfl rfl _ _ _ rfl rfl (by first | with_reducible assumption | exact Is.const64 (by decide +kernel) | exact Is.const32 (by decide +kernel)) (by first | with_reducible assumption | exact Is.const64 (by decide +kernel) | exact Is.const32 (by decide +kernel)) HO.out ?_) | (refine wpList_cmd _ _ _ _ _ rfl rfl rfl _ _ _ rfl rfl (by first | with_reducible assumption | exact Is.const64 (by decide +kernel) | exact Is.const32 (by decide +kernel)) (by first | with_reducible assumption | exact Is.const64 (by decide +kernel) | exact Is.const32 (by decide +kernel)) HX.out ?_) | (refine wpList_cmd _ _ _ _ _ rfl rfl rfl _ _ _ rfl rfl (by first | with_reducible assumption | exact Is.const64 (by decide +kernel) | exact Is.const32 (by decide +kernel)) (by first | with_reducible assumption | exact Is.const64 (by decide +kernel) | exact Is.const32 (by decide +kernel)) HY.out ?_) | (refine wpList_ar _ _ _ _ _ rfl rfl rfl _ _ _ rfl rfl (by first | with_reducible assumption | exact Is.const64 (by decide +kernel) | exact Is.const32 (by decide +kernel)) (by first | with_reducible assumption | exact Is.const64 (by decide +kernel) | exact Is.const32 (by decide +kernel)) ?_; intro r n hr; (try rw [← HA.out] at hr); (try rw [← HW.out] at hr)) | (refine wpList_ne _ _ rfl rfl _ rfl (by assumption) ?_; intro r hr; (try rw [← HA.out] at hr); (try rw [← HW.out] at hr)) | (refine wpList_na _ _ _ rfl rfl _ rfl (by kernel_rfl) (by kernel_rfl) (by assumption) HOK.out ?_; intro r n hr))
              go_ret
              exact Post32.mk (by assumption)

end Go.Proofs.Ytigcnipgmjmenaa
