/- Walks: the logarithm. -/
import Derived.Test.YtigcnipgmjmenaaS2
import Derived.Test.YtigcnipgmjmenaaFx
namespace Go.Proofs.Ytigcnipgmjmenaa
open Go.Fl Go.RowKit Ieee
set_option exponentiation.threshold 3000
set_option linter.unusedVariables false
set_option linter.unusedSimpArgs false

theorem isInf121 (r : Nat) (h : r < 9218868437227405312) (w : World) : Calls Try.prog 121 #[.float .f64 r, .int .i64 1] w fun e w' => e = .returned (.bool false) ∧ w = w' := by
  have hr : Is .f64 r (some r) := Is.pos (by omega)
  have hc : cmpV .gtr .f64 (some r) (some 9218868437227405311) = false := by
    unfold cmpV
    rw [cmp_self (by omega) (by decide)]
    rcases Nat.lt_trichotomy r 9218868437227405311 with h' | h' | h'
    · rw [(Nat.compare_eq_lt).2 h']; rfl
    · rw [h']; rfl
    · omega
  have HC := Lib.hid hc
  clear hc
  go_enter Try.func121, Try.ntmps121
  go_wp2_with (first | (refine wpList_cmd _ _ _ _ _ rfl rfl rfl _ _ _ rfl rfl (by first | with_reducible assumption | exact Is.const64 (by decide +kernel)) (by first | with_reducible assumption | exact Is.const64 (by decide +kernel)) HC.out ?_))
  go_ret
  exact ⟨rfl, rfl⟩

set_option maxRecDepth 100000 in
set_option maxHeartbeats 2000000 in
theorem implLog (r0 : Nat) (h0 : 874 * 4503599627370496 ≤ r0) (h1p : r0 < 1151 * 4503599627370496) (w : World) : Calls Try.prog 74 #[.float .f64 r0] w (Post64 (logF r0) w) := by

  have hlo : 874 * 4503599627370496 ≤ r0 := h0
  have hrv : Is .f64 r0 (some r0) := Is.pos (by omega)
  go_enter Try.func74, Try.ntmps74
  go_wp2
  go_loopg [0, 3] 400 (fun g vx ve wr => ∃ (y : Nat) (e : Int) (xv n : Nat), Hid ((r0 : Int) = y + e * 4503599627370496) ∧ 874 * 4503599627370496 ≤ y ∧ y < (g + 1000) * 4503599627370496 ∧ y < 1151 * 4503599627370496 ∧ 0 ≤ e ∧ vx = .float .f64 xv ∧ Is .f64 xv (some y) ∧ (∃ ev, ve = .float .f64 ev ∧ Is .f64 ev (some (kbi e))) ∧ wr = w.drewN n)
  case atStart => exact ⟨r0, 0, _, 0, Lib.hid (by omega), by omega, by omega, by omega, by omega, rfl, by assumption, ⟨_, rfl, by rw [kbi_0]; exact Is.const64 (by decide +kernel)⟩, rfl⟩
  case round =>
    obtain ⟨y, e, xv, n, hy, hy0, hyg, hy1, he0, rfl, hx, ⟨ev, rfl, he⟩, rfl⟩ := hrel
    have he1 : e < 280 := by have := hy.out; omega
    by_cases hb : 4609434218613702656 ≤ y
    · have HB := Lib.hid ((geV_self (a := y) (b := 4609434218613702656) (by omega) (by omega)).trans (decide_eq_true hb))
      have HW := Lib.hid (half_word (r := y) (by omega) (by omega))
      skip
      go_wp2_with (first | (refine wpList_cmd _ _ _ _ _ rfl rfl rfl _ _ _ rfl rfl (by first | with_reducible assumption | exact Is.const64 (by decide +kernel)) (by first | with_reducible assumption | exact Is.const64 (by decide +kernel)) HB.out ?_) | (refine wpList_ar _ _ _ _ _ rfl rfl rfl _ _ _ rfl rfl (by first | with_reducible assumption | exact Is.const64 (by decide +kernel)) (by first | with_reducible assumption | exact Is.const64 (by decide +kernel)) ?_; intro r n hr; (try rw [HW.out] at hr)))
      go_roundg (gk - 1)
      case measure => omega
      case rel => exact ⟨y - 4503599627370496, e + 1, _, _, Lib.hid (by have := hy.out; omega), by omega, by omega, by omega, by omega, rfl, by assumption, ⟨_, rfl, by rw [← kbi_inc (by omega) (by omega)]; assumption⟩, rfl⟩
    · have HB := Lib.hid ((geV_self (a := y) (b := 4609434218613702656) (by omega) (by omega)).trans (decide_eq_false hb))
      go_wp2_with (refine wpList_cmd _ _ _ _ _ rfl rfl rfl _ _ _ rfl rfl (by first | with_reducible assumption | exact Is.const64 (by decide +kernel)) (by first | with_reducible assumption | exact Is.const64 (by decide +kernel)) HB.out ?_)
      simp only [Act.put, List.setIfInBounds_toArray, List.set_cons_succ, List.set_cons_zero]
      go_loopg [0, 3] 400 (fun g vx ve wr => ∃ (y : Nat) (e : Int) (xv n : Nat), Hid ((r0 : Int) = y + e * 4503599627370496) ∧ 874 * 4503599627370496 ≤ y ∧ 1100 * 4503599627370496 ≤ y + g * 4503599627370496 ∧ y < 4609434218613702656 ∧ -280 ≤ e ∧ e < 280 ∧ vx = .float .f64 xv ∧ Is .f64 xv (some y) ∧ (∃ ev, ve = .float .f64 ev ∧ Is .f64 ev (some (kbi e))) ∧ wr = w.drewN n)
      case atStart => exact ⟨y, e, _, _, hy, by omega, by omega, by omega, by omega, by omega, rfl, by assumption, ⟨_, rfl, by assumption⟩, rfl⟩
      case round =>
        clear hy hy0 hyg hy1 he0 hx he1 hb HB he
        obtain ⟨y, e, xv, n, hy, hy0, hyg, hy1, he2, he3, rfl, hx, ⟨ev, rfl, he⟩, rfl⟩ := hrel
        have he0 : -230 ≤ e := by have := hy.out; omega
        by_cases hb : y < 4604930618986332160
        · have HB := Lib.hid ((ltV_self (a := y) (b := 4604930618986332160) (by omega) (by omega)).trans (decide_eq_true hb))
          have HW := Lib.hid (dbl_word (r := y) (by omega) (by omega))
          skip
          go_wp2_with (first | (refine wpList_cmd _ _ _ _ _ rfl rfl rfl _ _ _ rfl rfl (by first | with_reducible assumption | exact Is.const64 (by decide +kernel)) (by first | with_reducible assumption | exact Is.const64 (by decide +kernel)) HB.out ?_) | (refine wpList_ar _ _ _ _ _ rfl rfl rfl _ _ _ rfl rfl (by first | with_reducible assumption | exact Is.const64 (by decide +kernel)) (by first | with_reducible assumption | exact Is.const64 (by decide +kernel)) ?_; intro r n hr; (try rw [HW.out] at hr)))
          go_roundg (gk - 1)
          case measure => omega
          case rel => exact ⟨y + 4503599627370496, e - 1, _, _, Lib.hid (by have := hy.out; omega), by omega, by omega, by omega, by omega, by omega, rfl, by assumption, ⟨_, rfl, by rw [← kbi_dec (by omega) (by omega)]; assumption⟩, rfl⟩
        · have HB := Lib.hid ((ltV_self (a := y) (b := 4604930618986332160) (by omega) (by omega)).trans (decide_eq_false hb))
          have HF := Lib.hid (logF_of hy.out (by omega) (by omega))
          obtain ⟨S, hS⟩ : ∃ S, S = fop .quo .f64 (fop .sub .f64 (some y) (some c1)) (fop .add .f64 (some y) (some c1)) := ⟨_, rfl⟩
          obtain ⟨U, hU⟩ : ∃ U, U = fop .mul .f64 S S := ⟨_, rfl⟩
          have HS := Lib.hid hS
          have HU := Lib.hid hU
          clear hS hU
          go_wp2_with (first | (refine wpList_cmd _ _ _ _ _ rfl rfl rfl _ _ _ rfl rfl (by first | with_reducible assumption | exact Is.const64 (by decide +kernel)) (by first | with_reducible assumption | exact Is.const64 (by decide +kernel)) HB.out ?_) | (refine wpList_ar _ _ _ _ _ rfl rfl rfl _ _ _ rfl rfl (by first | with_reducible assumption | exact Is.const64 (by decide +kernel)) (by first | with_reducible assumption | exact Is.const64 (by decide +kernel)) ?_; intro r n hr; (try rw [← HS.out] at hr); (try rw [← HU.out] at hr)))
          go_loopg [6, 7] 15 (fun g vq vk wr => ∃ (i qv n : Nat), Hid (g + i = 15) ∧ i ≤ 13 ∧ (∃ kv, vk = .float .f64 kv ∧ Is .f64 kv (some (ko 25 i))) ∧ vq = .float .f64 qv ∧ Is .f64 qv (srI .add 25 U i) ∧ wr = w.drewN n)
          case atStart => exact ⟨0, _, _, Lib.hid rfl, by omega, ⟨_, rfl, by rw [show ko 25 0 = 4627730092099895296 by decide +kernel]; exact Is.const64 (by decide +kernel)⟩, rfl, Is.const64 (by decide +kernel), rfl⟩
          case round =>
            obtain ⟨i, qv, n, hgi, hi, ⟨kv, rfl, hk⟩, rfl, hq, rfl⟩ := hrel
            by_cases h1 : i ≤ 12
            · have HK := Lib.hid ((ko25_ge i (by omega)).trans (decide_eq_true h1))
              skip
              go_wp2_with (first | (refine wpList_cmd _ _ _ _ _ rfl rfl rfl _ _ _ rfl rfl (by first | with_reducible assumption | exact Is.const64 (by decide +kernel)) (by first | with_reducible assumption | exact Is.const64 (by decide +kernel)) HK.out ?_) | (refine wpList_ar _ _ _ _ _ rfl rfl rfl _ _ _ rfl rfl (by first | with_reducible assumption | exact Is.const64 (by decide +kernel)) (by first | with_reducible assumption | exact Is.const64 (by decide +kernel)) ?_; intro r n hr))
              go_roundg (gk - 1)
              case measure => have := hgi.out; omega
              case rel => exact ⟨i + 1, _, _, Lib.hid (by have := hgi.out; omega), by omega, ⟨_, rfl, by rw [← ko25_dn i (by omega)]; assumption⟩, rfl, (by show Is .f64 _ (fop .add .f64 (fop .quo .f64 (some c1) (some (kb (25 - 2 * i)))) (fop .mul .f64 U (srI .add 25 U i))); rw [← ko25_kb i (by omega)]; assumption), rfl⟩
            · have HK := Lib.hid ((ko25_ge i (by omega)).trans (decide_eq_false h1))
              obtain rfl : i = 13 := by omega
              skip
              clear h1
              go_wp2_with (first | (refine wpList_cmd _ _ _ _ _ rfl rfl rfl _ _ _ rfl rfl (by first | with_reducible assumption | exact Is.const64 (by decide +kernel)) (by first | with_reducible assumption | exact Is.const64 (by decide +kernel)) HK.out ?_) | (refine wpList_ar _ _ _ _ _ rfl rfl rfl _ _ _ rfl rfl (by first | with_reducible assumption | exact Is.const64 (by decide +kernel)) (by first | with_reducible assumption | exact Is.const64 (by decide +kernel)) ?_; intro r n hr))
              go_ret
              exact Post64.mk (by rw [HF.out]; unfold tailL; dsimp only; rw [← HS.out, ← HU.out]; assumption)

end Go.Proofs.Ytigcnipgmjmenaa
