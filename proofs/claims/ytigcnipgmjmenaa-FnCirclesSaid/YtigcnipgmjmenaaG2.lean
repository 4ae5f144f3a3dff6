/- Walks: the angle of a point: the reference, every case. -/
import Derived.Test.YtigcnipgmjmenaaG
namespace Go.Proofs.Ytigcnipgmjmenaa
open Go.Fl Go.RowKit Ieee
set_option exponentiation.threshold 3000
set_option linter.unusedVariables false
set_option linter.unusedSimpArgs false

set_option maxRecDepth 100000 in
set_option maxHeartbeats 4000000 in
theorem specAngleFin (a0 a1 : Nat) (hb0 : a0 < 4294967296) (hb1 : a1 < 4294967296) (hf0 : single.rungOf a0 < single.infRung) (hf1 : single.rungOf a1 < single.infRung) (hnz : single.rungOf a1 ≠ 0 ∨ single.rungOf a0 ≠ 0) (w : World) :
    Calls Try.prog 112 #[.float .f64 (wideN a0), .float .f64 (wideN a1)] w (Post64 (angF (wideN a0) (wideN a1)) w) := by
  have hy0 : Is .f32 a0 (some a0) := Is.of_lt hb0 |>.trans' (val_num (k := .f32) (nan_of_fin .f32 hf0))
  have hx0 : Is .f32 a1 (some a1) := Is.of_lt hb1 |>.trans' (val_num (k := .f32) (nan_of_fin .f32 hf1))
  obtain ⟨hw0, hY, hy64, hyn, -⟩ := wideN_fin hf0
  obtain ⟨hw1, hX, hx64, hxn, -⟩ := wideN_fin hf1
  have hcy := (wide_signs (nan_of_fin .f32 hf0)).2.2.1
  have hcx := (wide_signs (nan_of_fin .f32 hf1)).2.2.1
  have hay : Is .f64 (wideN a0 % 9223372036854775808) (some (absB (wideN a0))) := absB_is (nan_of_fin .f64 hY)
  have hax : Is .f64 (wideN a1 % 9223372036854775808) (some (absB (wideN a1))) := absB_is (nan_of_fin .f64 hX)
  have hyw : Is .f64 (wideN a0) (some (wideN a0)) := Is.fin hy64 hY
  have hxw : Is .f64 (wideN a1) (some (wideN a1)) := Is.fin hx64 hX
  have HOK := Lib.hid (narrowOk_of_bd (bd_angF hY hX) (by omega))
  obtain ⟨V, hV⟩ : ∃ V, V = angF (wideN a0) (wideN a1) := ⟨_, rfl⟩
  obtain ⟨T0, hT0⟩ : ∃ T0, T0 = t0V (wideN a0) (wideN a1) := ⟨_, rfl⟩
  obtain ⟨ov, hov⟩ : ∃ ov, overB (wideN a0) (wideN a1) = ov := ⟨_, rfl⟩
  obtain ⟨xn, hxneg⟩ : ∃ xn, cmpV .lss .f64 (some (wideN a1)) (some c0) = xn := ⟨_, rfl⟩
  obtain ⟨yn, hyneg⟩ : ∃ yn, cmpV .lss .f64 (some (wideN a0)) (some c0) = yn := ⟨_, rfl⟩
  have HV : Hid (V = turn3 yn (turn2 xn (turn1 ov (ang0 (tI T0 3))))) := by
    rw [hV, hT0, ← hov, ← hxneg, ← hyneg]; exact rfl
  have hT0' : T0 = if ov then fop .quo .f64 (some (absB (wideN a1))) (some (absB (wideN a0))) else fop .quo .f64 (some (absB (wideN a0))) (some (absB (wideN a1))) := by
    rw [hT0, ← hov]; exact rfl
  have HO : Hid (cmpV .gtr .f64 (some (absB (wideN a0))) (some (absB (wideN a1))) = ov) := hov
  have HX := Lib.hid hxneg
  have HY := Lib.hid hyneg
  rw [← hV]
  have e1 := eqlV0 .f64 (wideN a1)
  have e0 := eqlV0 .f64 (wideN a0)
  have N0 := Lib.hid (neq_fin hY)
  have N1 := Lib.hid (neq_fin hX)
  obtain ⟨z1, hz1⟩ : ∃ z1, decide (FloatKind.f64.format.rungOf (wideN a1) = 0) = z1 := ⟨_, rfl⟩
  obtain ⟨z0, hz0⟩ : ∃ z0, decide (FloatKind.f64.format.rungOf (wideN a0) = 0) = z0 := ⟨_, rfl⟩
  have hzz : z1 = false ∨ z0 = false := by
    rcases hnz with h | h
    · left; rw [← hz1]; exact decide_eq_false (fun h' => h (hcx.1 h'))
    · right; rw [← hz0]; exact decide_eq_false (fun h' => h (hcy.1 h'))
  have Z1 := Lib.hid (e1.trans hz1)
  have Z0 := Lib.hid (e0.trans hz0)
  have HTT := Lib.hid hT0'
  clear HOK hw0 hw1 hY hX hyn hxn hcy hcx hV hT0 hov hxneg hyneg e1 e0 hz1 hz0 hf0 hf1 hnz hT0'
  have hz2 : z1 = true → z0 = false := by
    rintro rfl
    rcases hzz with h | h
    · cases h
    · exact h
  clear hzz
  cases z1
  all_goals
    (try obtain rfl := hz2 rfl)
    clear hz2
    cases ov
  all_goals
    have HT0 := Lib.hid (HTT.out.trans rfl)
    simp only [if_true, Bool.false_eq_true, if_false] at HT0
    clear HTT

    go_enter Try.func112, Try.ntmps112
    go_wp2_with (first | (refine wpList_cmd _ _ _ _ _ rfl rfl rfl _ _ _ rfl rfl (by first | with_reducible assumption | exact Is.const64 (by decide +kernel) | exact Is.const32 (by decide +kernel)) (by first | with_reducible assumption | exact Is.const64 (by decide +kernel) | exact Is.const32 (by decide +kernel)) N0.out ?_) | (refine wpList_cmd _ _ _ _ _ rfl rfl rfl _ _ _ rfl rfl (by first | with_reducible assumption | exact Is.const64 (by decide +kernel) | exact Is.const32 (by decide +kernel)) (by first | with_reducible assumption | exact Is.const64 (by decide +kernel) | exact Is.const32 (by decide +kernel)) N1.out ?_) | (refine wpList_cmd _ _ _ _ _ rfl rfl rfl _ _ _ rfl rfl (by first | with_reducible assumption | exact Is.const64 (by decide +kernel) | exact Is.const32 (by decide +kernel)) (by first | with_reducible assumption | exact Is.const64 (by decide +kernel) | exact Is.const32 (by decide +kernel)) Z1.out ?_) | (refine wpList_cmd _ _ _ _ _ rfl rfl rfl _ _ _ rfl rfl (by first | with_reducible assumption | exact Is.const64 (by decide +kernel) | exact Is.const32 (by decide +kernel)) (by first | with_reducible assumption | exact Is.const64 (by decide +kernel) | exact Is.const32 (by decide +kernel)) Z0.out ?_) | (go_at_call 76; refine (abs _ (by first | exact hy64 | exact hx64) _).mono ?_; rintro e w' ⟨rfl, rfl⟩) | (refine wpList_cmd _ _ _ _ _ rfl rfl rfl _ _ _ rfl rfl (by first | with_reducible assumption | exact Is.const64 (by decide +kernel) | exact Is.const32 (by decide +kernel)) (by first | with_reducible assumption | exact Is.const64 (by decide +kernel) | exact Is.const32 (by decide +kernel)) HO.out ?_) | (refine wpList_ar _ _ _ _ _ rfl rfl rfl _ _ _ rfl rfl (by first | with_reducible assumption | exact Is.const64 (by decide +kernel) | exact Is.const32 (by decide +kernel)) (by first | with_reducible assumption | exact Is.const64 (by decide +kernel) | exact Is.const32 (by decide +kernel)) ?_; intro r n hr; (try rw [← HT0.out] at hr)))
    go_loopg [8, 9] 4 (fun g vt vc wr => ∃ (i tv n : Nat), Hid (g + i = 4) ∧ i ≤ 3 ∧ vc = .int .i64 (i : Int) ∧ vt = .float .f64 tv ∧ Is .f64 tv (tI T0 i) ∧ wr = w.drewN n)
    case atStart => exact ⟨0, _, _, Lib.hid rfl, by omega, rfl, rfl, (by show Is .f64 _ T0; assumption), rfl⟩
    case round =>
      obtain ⟨i, tv, n, hgi, hi, rfl, rfl, ht, rfl⟩ := hrel
      by_cases h3 : (i : Int) < 3
      · go_wp2_with (first | (refine wpList_ar _ _ _ _ _ rfl rfl rfl _ _ _ rfl rfl (by first | with_reducible assumption | exact Is.const64 (by decide +kernel) | exact Is.const32 (by decide +kernel)) (by first | with_reducible assumption | exact Is.const64 (by decide +kernel) | exact Is.const32 (by decide +kernel)) ?_; intro r n hr) | (go_at_call 79; refine (sqrt79' _ _ (by with_reducible assumption) _).mono ?_; rintro e w' ⟨r, n, rfl, hr, rfl⟩))
        go_roundg (gk - 1)
        case measure => have := hgi.out; omega
        case rel => exact ⟨i + 1, _, _, Lib.hid (by have := hgi.out; omega), by omega, (by congr 1), rfl, (by show Is .f64 _ (Go.Fl.stepT (tI T0 i)); unfold Go.Fl.stepT; assumption), rfl⟩
      · obtain rfl : i = 3 := by omega
        clear h3
        obtain ⟨T, hT⟩ : ∃ T, T = tI T0 3 := ⟨_, rfl⟩
        obtain ⟨U, hU⟩ : ∃ U, U = fop .mul .f64 T T := ⟨_, rfl⟩
        obtain ⟨A, hA⟩ : ∃ A, A = fop .quo .f64 (fop .mul .f64 (some c8) (fop .mul .f64 T (srI .sub 15 U 8))) (some tau) := ⟨_, rfl⟩
        have h2 : ang0 (tI T0 3) = A := by rw [hA, hU, hT]; rfl
        have hv2 := HV.out
        rw [h2] at hv2
        have HVA := Lib.hid hv2
        clear h2 hv2
        rw [← hT] at ht
        have HU := Lib.hid hU
        have HA := Lib.hid hA
        clear hT hU hA
        go_wp2_with (first | (refine wpList_ar _ _ _ _ _ rfl rfl rfl _ _ _ rfl rfl (by first | with_reducible assumption | exact Is.const64 (by decide +kernel) | exact Is.const32 (by decide +kernel)) (by first | with_reducible assumption | exact Is.const64 (by decide +kernel) | exact Is.const32 (by decide +kernel)) ?_; intro r n hr; (try rw [← HU.out] at hr)))
        go_loopg [11, 12] 10 (fun g vp vk wr => ∃ (i pv n : Nat), Hid (g + i = 10) ∧ i ≤ 8 ∧ vk = .int .i64 (15 - 2 * (i : Int)) ∧ vp = .float .f64 pv ∧ Is .f64 pv (srI .sub 15 U i) ∧ wr = w.drewN n)
        case atStart => exact ⟨0, _, _, Lib.hid rfl, by omega, rfl, rfl, Is.const64 (by decide +kernel), rfl⟩
        case round =>
          obtain ⟨i, pv, n, hgi, hi, rfl, rfl, hp, rfl⟩ := hrel
          by_cases h1 : i ≤ 7
          · have hki : 1 ≤ 15 - 2 * (i : Int) ∧ 15 - 2 * (i : Int) ≤ 15 := by omega
            have hkv : Is .f64 (floatOfInt .f64 (15 - 2 * (i : Int))) (some (ko 15 i)) := Is.ko (K := 15) (by decide) (by omega)
            go_wp2_with (first | (refine wpList_ar _ _ _ _ _ rfl rfl rfl _ _ _ rfl rfl (by first | with_reducible assumption | exact Is.const64 (by decide +kernel) | exact Is.const32 (by decide +kernel)) (by first | with_reducible assumption | exact Is.const64 (by decide +kernel) | exact Is.const32 (by decide +kernel)) ?_; intro r n hr))
            go_roundg (gk - 1)
            case measure => have := hgi.out; omega
            case rel => exact ⟨i + 1, _, _, Lib.hid (by have := hgi.out; omega), by omega, (by congr 1; omega), rfl, (by show Is .f64 _ (fop .sub .f64 (fop .quo .f64 (some c1) (some (kb (15 - 2 * i)))) (fop .mul .f64 U (srI .sub 15 U i))); rw [← ko15_kb i (by omega)]; assumption), rfl⟩
          · have hki : ¬ 1 ≤ 15 - 2 * (i : Int) := by omega
            obtain rfl : i = 8 := by omega
            clear h1
            cases xn <;> cases yn
            all_goals
              have HW := Lib.hid (HVA.out.trans rfl)
              simp only [turn1, turn2, turn3, if_true, Bool.false_eq_true, if_false] at HW
              clear HVA
              go_wp2_with (first | (refine wpList_cmd _ _ _ _ _ rfl rfl rfl _ _ _ rfl rfl (by first | with_reducible assumption | exact Is.const64 (by decide +kernel) | exact Is.const32 (by decide +kernel)) (by first | with_reducible assumption | exact Is.const64 (by decide +kernel) | exact Is.const32 (by decide +kernel)) HX.out ?_) | (refine wpList_cmd _ _ _ _ _ rfl rfl rfl _ _ _ rfl rfl (by first | with_reducible assumption | exact Is.const64 (by decide +kernel) | exact Is.const32 (by decide +kernel)) (by first | with_reducible assumption | exact Is.const64 (by decide +kernel) | exact Is.const32 (by decide +kernel)) HY.out ?_) | (refine wpList_ar _ _ _ _ _ rfl rfl rfl _ _ _ rfl rfl (by first | with_reducible assumption | exact Is.const64 (by decide +kernel) | exact Is.const32 (by decide +kernel)) (by first | with_reducible assumption | exact Is.const64 (by decide +kernel) | exact Is.const32 (by decide +kernel)) ?_; intro r n hr; (try rw [← HA.out] at hr); (try rw [← HW.out] at hr)) | (refine wpList_ne _ _ rfl rfl _ rfl (by assumption) ?_; intro r hr; (try rw [← HA.out] at hr); (try rw [← HW.out] at hr)))
              go_ret
              exact Post64.mk (by assumption)


theorem specAngleZero (a0 a1 : Nat) (hf0 : single.rungOf a0 < single.infRung) (hf1 : single.rungOf a1 < single.infRung) (h0 : single.rungOf a0 = 0) (h1 : single.rungOf a1 = 0) (w : World) :
    Calls Try.prog 112 #[.float .f64 (wideN a0), .float .f64 (wideN a1)] w (Post64 (some 0) w) := by
  obtain ⟨hw0, hY, hy64, hyn, -⟩ := wideN_fin hf0
  obtain ⟨hw1, hX, hx64, hxn, -⟩ := wideN_fin hf1
  have hcy := (wide_signs (nan_of_fin .f32 hf0)).2.2.1
  have hcx := (wide_signs (nan_of_fin .f32 hf1)).2.2.1
  have hyw : Is .f64 (wideN a0) (some (wideN a0)) := Is.fin hy64 hY
  have hxw : Is .f64 (wideN a1) (some (wideN a1)) := Is.fin hx64 hX
  have N0 := Lib.hid (neq_fin hY)
  have N1 := Lib.hid (neq_fin hX)
  have Z1 : Hid (cmpV .eql .f64 (some (wideN a1)) (some 0) = true) := by rw [eqlV0]; exact decide_eq_true (hcx.2 h1)
  have Z0 : Hid (cmpV .eql .f64 (some (wideN a0)) (some 0) = true) := by rw [eqlV0]; exact decide_eq_true (hcy.2 h0)
  clear hw0 hw1 hY hX hyn hxn hcy hcx hf0 hf1 h0 h1
  go_enter Try.func112, Try.ntmps112
  go_wp2_with (first | (refine wpList_cmd _ _ _ _ _ rfl rfl rfl _ _ _ rfl rfl (by first | with_reducible assumption | exact Is.const64 (by decide +kernel) | exact Is.const32 (by decide +kernel)) (by first | with_reducible assumption | exact Is.const64 (by decide +kernel) | exact Is.const32 (by decide +kernel)) N0.out ?_) | (refine wpList_cmd _ _ _ _ _ rfl rfl rfl _ _ _ rfl rfl (by first | with_reducible assumption | exact Is.const64 (by decide +kernel) | exact Is.const32 (by decide +kernel)) (by first | with_reducible assumption | exact Is.const64 (by decide +kernel) | exact Is.const32 (by decide +kernel)) N1.out ?_) | (refine wpList_cmd _ _ _ _ _ rfl rfl rfl _ _ _ rfl rfl (by first | with_reducible assumption | exact Is.const64 (by decide +kernel) | exact Is.const32 (by decide +kernel)) (by first | with_reducible assumption | exact Is.const64 (by decide +kernel) | exact Is.const32 (by decide +kernel)) Z1.out ?_) | (refine wpList_cmd _ _ _ _ _ rfl rfl rfl _ _ _ rfl rfl (by first | with_reducible assumption | exact Is.const64 (by decide +kernel) | exact Is.const32 (by decide +kernel)) (by first | with_reducible assumption | exact Is.const64 (by decide +kernel) | exact Is.const32 (by decide +kernel)) Z0.out ?_) | (refine wpList_ar _ _ _ _ _ rfl rfl rfl _ _ _ rfl rfl (by first | with_reducible assumption | exact Is.const64 (by decide +kernel) | exact Is.const32 (by decide +kernel)) (by first | with_reducible assumption | exact Is.const64 (by decide +kernel) | exact Is.const32 (by decide +kernel)) ?_; intro r n hr))
  go_ret
  exact Post64.mk Is.zero64

theorem specAngleNot (y x : Nat) (u v : Option Nat) (hy : Is .f64 y u) (hx : Is .f64 x v) (h : fop .sub .f64 u u = none ∨ fop .sub .f64 v v = none) (w : World) :
    Calls Try.prog 112 #[.float .f64 y, .float .f64 x] w (Post64 none w) := by
  by_cases h0 : fop .sub .f64 u u = none
  · have N0 := Lib.hid (neq_not h0)
    clear h h0
    go_enter Try.func112, Try.ntmps112
    go_wp2_with (first | (refine wpList_cmd _ _ _ _ _ rfl rfl rfl _ _ _ rfl rfl (by first | with_reducible assumption | exact Is.const64 (by decide +kernel) | exact Is.const32 (by decide +kernel)) (by first | with_reducible assumption | exact Is.const64 (by decide +kernel) | exact Is.const32 (by decide +kernel)) N0.out ?_) | (refine wpList_ar _ _ _ _ _ rfl rfl rfl _ _ _ rfl rfl (by first | with_reducible assumption | exact Is.const64 (by decide +kernel) | exact Is.const32 (by decide +kernel)) (by first | with_reducible assumption | exact Is.const64 (by decide +kernel) | exact Is.const32 (by decide +kernel)) ?_; intro r n hr) | (go_at_call 72; refine (nan72 _).mono ?_; rintro e w' ⟨r, n, rfl, hr, rfl⟩))
    go_ret
    exact Post64.mk (by assumption)
  · have h1 : fop .sub .f64 v v = none := by rcases h with h | h; · exact absurd h h0
                                             · exact h
    have N1 := Lib.hid (neq_not h1)
    obtain ⟨c, hc⟩ : ∃ c, cmpV .neq .f64 (fop .sub .f64 u u) (some c0) = c := ⟨_, rfl⟩
    have N0 := Lib.hid hc
    clear h h0 h1 hc
    cases c
    all_goals
      go_enter Try.func112, Try.ntmps112
      go_wp2_with (first | (refine wpList_cmd _ _ _ _ _ rfl rfl rfl _ _ _ rfl rfl (by first | with_reducible assumption | exact Is.const64 (by decide +kernel) | exact Is.const32 (by decide +kernel)) (by first | with_reducible assumption | exact Is.const64 (by decide +kernel) | exact Is.const32 (by decide +kernel)) N0.out ?_) | (refine wpList_cmd _ _ _ _ _ rfl rfl rfl _ _ _ rfl rfl (by first | with_reducible assumption | exact Is.const64 (by decide +kernel) | exact Is.const32 (by decide +kernel)) (by first | with_reducible assumption | exact Is.const64 (by decide +kernel) | exact Is.const32 (by decide +kernel)) N1.out ?_) | (refine wpList_ar _ _ _ _ _ rfl rfl rfl _ _ _ rfl rfl (by first | with_reducible assumption | exact Is.const64 (by decide +kernel) | exact Is.const32 (by decide +kernel)) (by first | with_reducible assumption | exact Is.const64 (by decide +kernel) | exact Is.const32 (by decide +kernel)) ?_; intro r n hr) | (go_at_call 72; refine (nan72 _).mono ?_; rintro e w' ⟨r, n, rfl, hr, rfl⟩))
      go_ret
      exact Post64.mk (by assumption)

theorem implAngleZero (a0 a1 : Nat) (hb0 : a0 < 4294967296) (hb1 : a1 < 4294967296) (hf0 : single.rungOf a0 < single.infRung) (hf1 : single.rungOf a1 < single.infRung) (h0 : single.rungOf a0 = 0) (h1 : single.rungOf a1 = 0) (w : World) :
    Calls Try.prog 45 #[.float .f32 a0, .float .f32 a1] w (Post32 (some 0) w) := by
  have hy0 : Is .f32 a0 (some a0) := Is.of_lt hb0 |>.trans' (val_num (k := .f32) (nan_of_fin .f32 hf0))
  have hx0 : Is .f32 a1 (some a1) := Is.of_lt hb1 |>.trans' (val_num (k := .f32) (nan_of_fin .f32 hf1))
  have Z1 : Hid (cmpV .eql .f32 (some a1) (some 0) = true) := by rw [eqlV0]; exact decide_eq_true h1
  have Z0 : Hid (cmpV .eql .f32 (some a0) (some 0) = true) := by rw [eqlV0]; exact decide_eq_true h0
  have HD0 := Lib.hid (decide_eq_true hf0)
  have HD1 := Lib.hid (decide_eq_true hf1)
  clear hf0 hf1 h0 h1
  go_enter Try.func45, Try.ntmps45
  go_wp2_with (first | (go_at_call 73; refine (isFinite73 _ _).mono ?_; rintro e w' ⟨rfl, n, rfl⟩; (first | rw [HD0.out] | rw [HD1.out])) | (refine wpList_cmd _ _ _ _ _ rfl rfl rfl _ _ _ rfl rfl (by first | with_reducible assumption | exact Is.const64 (by decide +kernel) | exact Is.const32 (by decide +kernel)) (by first | with_reducible assumption | exact Is.const64 (by decide +kernel) | exact Is.const32 (by decide +kernel)) Z1.out ?_) | (refine wpList_cmd _ _ _ _ _ rfl rfl rfl _ _ _ rfl rfl (by first | with_reducible assumption | exact Is.const64 (by decide +kernel) | exact Is.const32 (by decide +kernel)) (by first | with_reducible assumption | exact Is.const64 (by decide +kernel) | exact Is.const32 (by decide +kernel)) Z0.out ?_))
  go_ret
  exact Post32.mk Is.zero32

theorem implAngleNot (a0 a1 : Nat) (h : ¬ (single.rungOf a0 < single.infRung ∧ single.rungOf a1 < single.infRung)) (w : World) :
    Calls Try.prog 45 #[.float .f32 a0, .float .f32 a1] w (Post32 none w) := by
  by_cases h1 : single.rungOf a1 < single.infRung
  · have HD1 := Lib.hid (decide_eq_true h1)
    have HD0 := Lib.hid (decide_eq_false (fun h0 : single.rungOf a0 < single.infRung => h ⟨h0, h1⟩))
    clear h h1
    go_enter Try.func45, Try.ntmps45
    go_wp2_with (first | (go_at_call 73; refine (isFinite73 _ _).mono ?_; rintro e w' ⟨rfl, n, rfl⟩; (first | rw [HD1.out] | rw [HD0.out])) | (go_at_call 72; refine (nan72 _).mono ?_; rintro e w' ⟨r, n, rfl, hr, rfl⟩) | (refine wpList_na _ _ _ rfl rfl _ rfl (by kernel_rfl) (by kernel_rfl) (by assumption) narrow_none ?_; intro r n hr))
    go_ret
    exact Post32.mk (by assumption)
  · have HD1 := Lib.hid (decide_eq_false h1)
    clear h h1
    go_enter Try.func45, Try.ntmps45
    go_wp2_with (first | (go_at_call 73; refine (isFinite73 _ _).mono ?_; rintro e w' ⟨rfl, n, rfl⟩; rw [HD1.out]) | (go_at_call 72; refine (nan72 _).mono ?_; rintro e w' ⟨r, n, rfl, hr, rfl⟩) | (refine wpList_na _ _ _ rfl rfl _ rfl (by kernel_rfl) (by kernel_rfl) (by assumption) narrow_none ?_; intro r n hr))
    go_ret
    exact Post32.mk (by assumption)

/-- The angle of a point with single coordinates, as a double; as a single. -/
def angW (a0 a1 : Nat) : Option Nat := if single.rungOf a0 < single.infRung ∧ single.rungOf a1 < single.infRung then (if single.rungOf a0 = 0 ∧ single.rungOf a1 = 0 then some 0 else angF (wideN a0) (wideN a1)) else none
def angS (a0 a1 : Nat) : Option Nat := narrow (angW a0 a1)

theorem angW_ok (a0 a1 : Nat) : NarrowOk (angW a0 a1) := by
  unfold angW
  split
  · rename_i h
    split
    · exact zero_ok
    · obtain ⟨-, hY, -, -, -⟩ := wideN_fin h.1
      obtain ⟨-, hX, -, -, -⟩ := wideN_fin h.2
      exact narrowOk_of_bd (bd_angF hY hX) (by omega)
  · exact narrow_none

theorem specAngle112 (y x a0 a1 : Nat) (hb0 : a0 < 4294967296) (hb1 : a1 < 4294967296) (hy : Is .f64 y (widen (val .f32 a0))) (hx : Is .f64 x (widen (val .f32 a1))) (w : World) :
    Calls Try.prog 112 #[.float .f64 y, .float .f64 x] w (Post64 (angW a0 a1) w) := by
  unfold angW
  by_cases hf : single.rungOf a0 < single.infRung ∧ single.rungOf a1 < single.infRung
  · rw [if_pos hf]
    rw [(wideN_fin hf.1).1] at hy
    rw [(wideN_fin hf.2).1] at hx
    obtain ⟨rfl, -⟩ := hy.some
    obtain ⟨rfl, -⟩ := hx.some
    by_cases hz : single.rungOf a0 = 0 ∧ single.rungOf a1 = 0
    · rw [if_pos hz]; exact specAngleZero a0 a1 hf.1 hf.2 hz.1 hz.2 w
    · rw [if_neg hz]; exact specAngleFin a0 a1 hb0 hb1 hf.1 hf.2 (by omega) w
  · rw [if_neg hf]
    refine specAngleNot y x _ _ hy hx ?_ w
    by_cases h0 : single.rungOf a0 < single.infRung
    · right; exact wide_not (fun h1 => hf ⟨h0, h1⟩)
    · left; exact wide_not h0

theorem implAngle45 (a0 a1 : Nat) (hb0 : a0 < 4294967296) (hb1 : a1 < 4294967296) (w : World) : Calls Try.prog 45 #[.float .f32 a0, .float .f32 a1] w (Post32 (angS a0 a1) w) := by
  unfold angS angW
  by_cases hf : single.rungOf a0 < single.infRung ∧ single.rungOf a1 < single.infRung
  · rw [if_pos hf]
    by_cases hz : single.rungOf a0 = 0 ∧ single.rungOf a1 = 0
    · rw [if_pos hz, narrow_zero]; exact implAngleZero a0 a1 hb0 hb1 hf.1 hf.2 hz.1 hz.2 w
    · rw [if_neg hz]; exact implAngle a0 a1 hb0 hb1 hf.1 hf.2 (by omega) w
  · rw [if_neg hf]; exact implAngleNot a0 a1 hf w

theorem specAngle87 (a0 a1 : Nat) (hb0 : a0 < 4294967296) (hb1 : a1 < 4294967296) (w : World) : Calls Try.prog 87 #[.float .f32 a0, .float .f32 a1] w (Post32 (angS a0 a1) w) := by
  have h0 : Is .f32 a0 (val .f32 a0) := Is.of_lt hb0
  have h1 : Is .f32 a1 (val .f32 a1) := Is.of_lt hb1
  have C0 := Lib.hid (fun y x hy hx w => specAngle112 y x a0 a1 hb0 hb1 hy hx w)
  have HOK := Lib.hid (angW_ok a0 a1)
  unfold angS
  go_enter Try.func87, Try.ntmps87
  go_wp2_with (first | (refine wpList_wi _ _ _ rfl rfl _ rfl (by kernel_rfl) (by kernel_rfl) (by with_reducible assumption) ?_; intro r n hr) | (go_at_call 112; refine (C0.out _ _ (by assumption) (by assumption) _).mono ?_; rintro e w' ⟨r, n, rfl, hr, rfl⟩) | (go_at_call 105; refine (narrow105' _ _ (by assumption) HOK.out _).mono ?_; rintro e w' ⟨r, n, rfl, hr, rfl⟩))
  go_ret
  exact Post32.mk (by assumption)

theorem specAngle44 (a0 a1 : Nat) (hb0 : a0 < 4294967296) (hb1 : a1 < 4294967296) (w : World) : Calls Try.prog 44 #[.float .f32 a0, .float .f32 a1] w (Post32 (angS a0 a1) w) := by
  have C0 := Lib.hid (specAngle87 a0 a1 hb0 hb1)
  go_enter Try.func44, Try.ntmps44
  go_wp2_with (first | (go_at_call 87; refine (C0.out _).mono ?_; rintro e w' ⟨r, n, rfl, hr, rfl⟩))
  go_ret
  exact Post32.mk (by assumption)

theorem angleWalk (a0 a1 : Nat) (w : World) (w0 : (Lit.float .f32 a0).wf = true) (w1 : (Lit.float .f32 a1).wf = true) :
    Calls Try.prog 14 #[.float .f32 a0, .float .f32 a1] w fun e w' => e = .returned (.bool true) ∧ Below w.heap.size w w' := by
  have hb0 := lt32 w0
  have hb1 := lt32 w1
  clear w0 w1
  have C1 := Lib.hid (specAngle44 _ _ hb0 hb1)
  have C2 := Lib.hid (implAngle45 _ _ hb0 hb1)
  go_enter Try.func14, Try.ntmps14
  go_wp2_with (first | (go_at_call 44; refine (C1.out _).mono ?_; rintro e w' ⟨rW, nW, rfl, hW, rfl⟩) | (go_at_call 45; refine (C2.out _).mono ?_; rintro e w' ⟨rG, nG, rfl, hG, rfl⟩) | (refine wpList_widen _ _ _ rfl rfl _ rfl (by kernel_rfl) (by kernel_rfl) ?_; intro r n hr) | (go_at_call 19; refine (sameWide _ _ ‹_› ‹_› hG hW _).mono ?_; rintro e w' ⟨rfl, n, rfl⟩))
  go_ret
  exact ⟨rfl, below_drewN (Below.refl _ _) _⟩
end Go.Proofs.Ytigcnipgmjmenaa
