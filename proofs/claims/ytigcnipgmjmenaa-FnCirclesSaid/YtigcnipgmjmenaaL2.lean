/- Walks: the reference's logarithm; the logarithms of singles. -/
import Derived.Test.YtigcnipgmjmenaaL
import Derived.Test.YtigcnipgmjmenaaS3
import Derived.Test.YtigcnipgmjmenaaFy
namespace Go.Proofs.Ytigcnipgmjmenaa
open Go.Fl Go.RowKit Ieee
set_option exponentiation.threshold 3000
set_option linter.unusedVariables false
set_option linter.unusedSimpArgs false

set_option maxRecDepth 100000 in
set_option maxHeartbeats 2000000 in
theorem specLogPos (r0 : Nat) (h0 : 874 * 4503599627370496 ≤ r0) (h1p : r0 < 1151 * 4503599627370496) (w : World) : Calls Try.prog 109 #[.float .f64 r0] w (Post64 (logF r0) w) := by
  have E1 := Lib.hid (neqV_self .f64 r0)
  have E2 := Lib.hid ((ltV_self (a := r0) (b := 0) (by omega) (by decide)).trans (decide_eq_false (by omega)))
  have E3 := Lib.hid ((eqlV_self (a := r0) (b := 0) (by omega) (by decide)).trans (decide_eq_false (by omega)))

  have hlo : 874 * 4503599627370496 ≤ r0 := h0
  have hrv : Is .f64 r0 (some r0) := Is.pos (by omega)
  go_enter Try.func109, Try.ntmps109
  go_wp2_with (first | (refine wpList_cmd _ _ _ _ _ rfl rfl rfl _ _ _ rfl rfl (by first | with_reducible assumption | exact Is.const64 (by decide +kernel)) (by first | with_reducible assumption | exact Is.const64 (by decide +kernel)) E1.out ?_) | (refine wpList_cmd _ _ _ _ _ rfl rfl rfl _ _ _ rfl rfl (by first | with_reducible assumption | exact Is.const64 (by decide +kernel)) (by first | with_reducible assumption | exact Is.const64 (by decide +kernel)) E2.out ?_) | (refine wpList_cmd _ _ _ _ _ rfl rfl rfl _ _ _ rfl rfl (by first | with_reducible assumption | exact Is.const64 (by decide +kernel)) (by first | with_reducible assumption | exact Is.const64 (by decide +kernel)) E3.out ?_) | (go_at_call 121; refine (isInf121 _ (by omega) _).mono ?_; rintro e w' ⟨rfl, rfl⟩) | (refine wpList_ar _ _ _ _ _ rfl rfl rfl _ _ _ rfl rfl (by first | with_reducible assumption | exact Is.const64 (by decide +kernel)) (by first | with_reducible assumption | exact Is.const64 (by decide +kernel)) ?_; intro r n hr))
  go_loopg [0, 3] 400 (fun g vx ve wr => ∃ (y : Nat) (e : Int) (xv n : Nat), Hid ((r0 : Int) = y + e * 4503599627370496) ∧ 874 * 4503599627370496 ≤ y ∧ y < (g + 1000) * 4503599627370496 ∧ y < 1151 * 4503599627370496 ∧ 0 ≤ e ∧ vx = .float .f64 xv ∧ Is .f64 xv (some y) ∧ ve = .int .i64 e ∧ wr = w.drewN n)
  case atStart => exact ⟨r0, 0, _, 0, Lib.hid (by omega), by omega, by omega, by omega, by omega, rfl, by assumption, rfl, rfl⟩
  case round =>
    obtain ⟨y, e, xv, n, hy, hy0, hyg, hy1, he0, rfl, hx, rfl, rfl⟩ := hrel
    have he1 : e < 280 := by have := hy.out; omega
    by_cases hb : 4609434218613702656 ≤ y
    · have HB := Lib.hid ((geV_self (a := y) (b := 4609434218613702656) (by omega) (by omega)).trans (decide_eq_true hb))
      have HW := Lib.hid (half_word (r := y) (by omega) (by omega))
      have hei : -9223372036854775808 ≤ e + 1 ∧ e + 1 < 9223372036854775807 := by omega
      go_wp2_with (first | (refine wpList_cmd _ _ _ _ _ rfl rfl rfl _ _ _ rfl rfl (by first | with_reducible assumption | exact Is.const64 (by decide +kernel)) (by first | with_reducible assumption | exact Is.const64 (by decide +kernel)) HB.out ?_) | (refine wpList_ar _ _ _ _ _ rfl rfl rfl _ _ _ rfl rfl (by first | with_reducible assumption | exact Is.const64 (by decide +kernel)) (by first | with_reducible assumption | exact Is.const64 (by decide +kernel)) ?_; intro r n hr; (try rw [HW.out] at hr)))
      go_roundg (gk - 1)
      case measure => omega
      case rel => exact ⟨y - 4503599627370496, e + 1, _, _, Lib.hid (by have := hy.out; omega), by omega, by omega, by omega, by omega, rfl, by assumption, rfl, rfl⟩
    · have HB := Lib.hid ((geV_self (a := y) (b := 4609434218613702656) (by omega) (by omega)).trans (decide_eq_false hb))
      go_wp2_with (refine wpList_cmd _ _ _ _ _ rfl rfl rfl _ _ _ rfl rfl (by first | with_reducible assumption | exact Is.const64 (by decide +kernel)) (by first | with_reducible assumption | exact Is.const64 (by decide +kernel)) HB.out ?_)
      simp only [Act.put, List.setIfInBounds_toArray, List.set_cons_succ, List.set_cons_zero]
      go_loopg [0, 3] 400 (fun g vx ve wr => ∃ (y : Nat) (e : Int) (xv n : Nat), Hid ((r0 : Int) = y + e * 4503599627370496) ∧ 874 * 4503599627370496 ≤ y ∧ 1100 * 4503599627370496 ≤ y + g * 4503599627370496 ∧ y < 4609434218613702656 ∧ -280 ≤ e ∧ e < 280 ∧ vx = .float .f64 xv ∧ Is .f64 xv (some y) ∧ ve = .int .i64 e ∧ wr = w.drewN n)
      case atStart => exact ⟨y, e, _, _, hy, by omega, by omega, by omega, by omega, by omega, rfl, by assumption, rfl, rfl⟩
      case round =>
        clear hy hy0 hyg hy1 he0 hx he1 hb HB 
        obtain ⟨y, e, xv, n, hy, hy0, hyg, hy1, he2, he3, rfl, hx, rfl, rfl⟩ := hrel
        have he0 : -230 ≤ e := by have := hy.out; omega
        by_cases hb : y < 4604930618986332160
        · have HB := Lib.hid ((ltV_self (a := y) (b := 4604930618986332160) (by omega) (by omega)).trans (decide_eq_true hb))
          have HW := Lib.hid (dbl_word (r := y) (by omega) (by omega))
          have hei : -9223372036854775808 < e - 1 ∧ e - 1 < 9223372036854775807 := by omega
          go_wp2_with (first | (refine wpList_cmd _ _ _ _ _ rfl rfl rfl _ _ _ rfl rfl (by first | with_reducible assumption | exact Is.const64 (by decide +kernel)) (by first | with_reducible assumption | exact Is.const64 (by decide +kernel)) HB.out ?_) | (refine wpList_ar _ _ _ _ _ rfl rfl rfl _ _ _ rfl rfl (by first | with_reducible assumption | exact Is.const64 (by decide +kernel)) (by first | with_reducible assumption | exact Is.const64 (by decide +kernel)) ?_; intro r n hr; (try rw [HW.out] at hr)))
          go_roundg (gk - 1)
          case measure => omega
          case rel => exact ⟨y + 4503599627370496, e - 1, _, _, Lib.hid (by have := hy.out; omega), by omega, by omega, by omega, by omega, by omega, rfl, by assumption, rfl, rfl⟩
        · have HB := Lib.hid ((ltV_self (a := y) (b := 4604930618986332160) (by omega) (by omega)).trans (decide_eq_false hb))
          have HF := Lib.hid (logF_of hy.out (by omega) (by omega))
          obtain ⟨S, hS⟩ : ∃ S, S = fop .quo .f64 (fop .sub .f64 (some y) (some c1)) (fop .add .f64 (some y) (some c1)) := ⟨_, rfl⟩
          obtain ⟨U, hU⟩ : ∃ U, U = fop .mul .f64 S S := ⟨_, rfl⟩
          have HS := Lib.hid hS
          have HU := Lib.hid hU
          clear hS hU
          go_wp2_with (first | (refine wpList_cmd _ _ _ _ _ rfl rfl rfl _ _ _ rfl rfl (by first | with_reducible assumption | exact Is.const64 (by decide +kernel)) (by first | with_reducible assumption | exact Is.const64 (by decide +kernel)) HB.out ?_) | (refine wpList_ar _ _ _ _ _ rfl rfl rfl _ _ _ rfl rfl (by first | with_reducible assumption | exact Is.const64 (by decide +kernel)) (by first | with_reducible assumption | exact Is.const64 (by decide +kernel)) ?_; intro r n hr; (try rw [← HS.out] at hr); (try rw [← HU.out] at hr)))
          go_loopg [6, 7] 15 (fun g vq vk wr => ∃ (i qv n : Nat), Hid (g + i = 15) ∧ i ≤ 13 ∧ vk = .int .i64 (25 - 2 * (i : Int)) ∧ vq = .float .f64 qv ∧ Is .f64 qv (srI .add 25 U i) ∧ wr = w.drewN n)
          case atStart => exact ⟨0, _, _, Lib.hid rfl, by omega, rfl, rfl, Is.const64 (by decide +kernel), rfl⟩
          case round =>
            obtain ⟨i, qv, n, hgi, hi, rfl, rfl, hq, rfl⟩ := hrel
            by_cases h1 : i ≤ 12
            · have hki : 1 ≤ 25 - 2 * (i : Int) ∧ 25 - 2 * (i : Int) ≤ 25 := by omega
              have hkv : Is .f64 (floatOfInt .f64 (25 - 2 * (i : Int))) (some (ko 25 i)) := Is.ko (K := 25) (by decide) (by omega)
              go_wp2_with (first | (refine wpList_ar _ _ _ _ _ rfl rfl rfl _ _ _ rfl rfl (by first | with_reducible assumption | exact Is.const64 (by decide +kernel)) (by first | with_reducible assumption | exact Is.const64 (by decide +kernel)) ?_; intro r n hr))
              go_roundg (gk - 1)
              case measure => have := hgi.out; omega
              case rel => exact ⟨i + 1, _, _, Lib.hid (by have := hgi.out; omega), by omega, (by congr 1; omega), rfl, (by show Is .f64 _ (fop .add .f64 (fop .quo .f64 (some c1) (some (kb (25 - 2 * i)))) (fop .mul .f64 U (srI .add 25 U i))); rw [← ko25_kb i (by omega)]; assumption), rfl⟩
            · have hki : ¬ 1 ≤ 25 - 2 * (i : Int) := by omega
              obtain rfl : i = 13 := by omega
              have hev : Is .f64 (floatOfInt .f64 e) (some (kbi e)) := Is.kbi (by omega) (by omega)
              clear h1
              go_wp2_with (first | (refine wpList_ar _ _ _ _ _ rfl rfl rfl _ _ _ rfl rfl (by first | with_reducible assumption | exact Is.const64 (by decide +kernel)) (by first | with_reducible assumption | exact Is.const64 (by decide +kernel)) ?_; intro r n hr))
              go_ret
              exact Post64.mk (by rw [HF.out]; unfold tailL; dsimp only; rw [← HS.out, ← HU.out]; assumption)

end Go.Proofs.Ytigcnipgmjmenaa
