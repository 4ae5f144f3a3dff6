/- Walks: phasors, every case. -/
import Derived.Test.YtigcnipgmjmenaaP
namespace Go.Proofs.Ytigcnipgmjmenaa
open Go.Fl Go.RowKit Ieee
set_option exponentiation.threshold 3000
set_option linter.unusedVariables false
set_option linter.unusedSimpArgs false

theorem is64 (x : Nat) (h : x < 18446744073709551616) : Is .f64 x (val .f64 x) := Is.of_wf (by simpa [Lit.wf] using h)

theorem implPhBig (x : Nat) (h64 : x < 18446744073709551616) (hfx : double.rungOf x < double.infRung) (hbig : bigB x = true) (w : World) :
    Calls Try.prog 40 #[.float .f64 x] w (PostC (some 1065353216) (some 0) w) := by
  have HD := Lib.hid (decide_eq_true hfx)
  have HB := Lib.hid ((big_absV (nan_of_fin .f64 hfx)).trans hbig)
  have hab : Is .f64 (x % 9223372036854775808) (some (absB x)) := absB_is (nan_of_fin .f64 hfx)
  clear hfx hbig
  go_enter Try.func40, Try.ntmps40
  go_wp2_with (first | (go_at_call 82; refine (isFin82 _ _).mono ?_; rintro e w' ⟨rfl, n, rfl⟩; rw [HD.out]) | (go_at_call 76; refine (abs _ h64 _).mono ?_; rintro e w' ⟨rfl, rfl⟩) | (refine wpList_cmd _ _ _ _ _ rfl rfl rfl _ _ _ rfl rfl (by first | with_reducible assumption | exact Is.const64 (by decide +kernel) | exact Is.const32 (by decide +kernel)) (by first | with_reducible assumption | exact Is.const64 (by decide +kernel) | exact Is.const32 (by decide +kernel)) HB.out ?_))
  go_ret
  exact PostC.mk (Is.const32 (by decide +kernel)) Is.zero32

theorem implPhNot (x : Nat) (hfx : ¬ double.rungOf x < double.infRung) (w : World) : Calls Try.prog 40 #[.float .f64 x] w (PostC none none w) := by
  have HD := Lib.hid (decide_eq_false hfx)
  clear hfx
  go_enter Try.func40, Try.ntmps40
  go_wp2_with (first | (go_at_call 82; refine (isFin82 _ _).mono ?_; rintro e w' ⟨rfl, n, rfl⟩; rw [HD.out]) | (go_at_call 72; refine (nan72 _).mono ?_; rintro e w' ⟨r, n, rfl, hr, rfl⟩) | (refine wpList_na _ _ _ rfl rfl _ rfl (by kernel_rfl) (by kernel_rfl) (by assumption) narrow_none ?_; intro r n hr))
  go_ret
  exact PostC.mk (by assumption) (by assumption)

theorem specPhBig (x : Nat) (h64 : x < 18446744073709551616) (hfx : double.rungOf x < double.infRung) (hbig : bigB x = true) (w : World) :
    Calls Try.prog 81 #[.float .f64 x] w (PostC (some 1065353216) (some 0) w) := by
  have hx : Is .f64 x (some x) := Is.fin h64 hfx
  have HA := Lib.hid (neq_fin hfx)
  rcases (big_specV (nan_of_fin .f64 hfx)).1 hbig with hb | ⟨hb, hd⟩
  · have HB := Lib.hid hb
    clear hb hbig hfx
    go_enter Try.func81, Try.ntmps81
    go_wp2_with (first | (refine wpList_cmd _ _ _ _ _ rfl rfl rfl _ _ _ rfl rfl (by first | with_reducible assumption | exact Is.const64 (by decide +kernel) | exact Is.const32 (by decide +kernel)) (by first | with_reducible assumption | exact Is.const64 (by decide +kernel) | exact Is.const32 (by decide +kernel)) HA.out ?_) | (refine wpList_cmd _ _ _ _ _ rfl rfl rfl _ _ _ rfl rfl (by first | with_reducible assumption | exact Is.const64 (by decide +kernel) | exact Is.const32 (by decide +kernel)) (by first | with_reducible assumption | exact Is.const64 (by decide +kernel) | exact Is.const32 (by decide +kernel)) HB.out ?_) | (refine wpList_ar _ _ _ _ _ rfl rfl rfl _ _ _ rfl rfl (by first | with_reducible assumption | exact Is.const64 (by decide +kernel) | exact Is.const32 (by decide +kernel)) (by first | with_reducible assumption | exact Is.const64 (by decide +kernel) | exact Is.const32 (by decide +kernel)) ?_; intro r n hr))
    go_ret
    exact PostC.mk (Is.const32 (by decide +kernel)) Is.zero32
  · have HB := Lib.hid hb
    have HD := Lib.hid hd
    clear hb hd hbig hfx
    go_enter Try.func81, Try.ntmps81
    go_wp2_with (first | (refine wpList_cmd _ _ _ _ _ rfl rfl rfl _ _ _ rfl rfl (by first | with_reducible assumption | exact Is.const64 (by decide +kernel) | exact Is.const32 (by decide +kernel)) (by first | with_reducible assumption | exact Is.const64 (by decide +kernel) | exact Is.const32 (by decide +kernel)) HA.out ?_) | (refine wpList_cmd _ _ _ _ _ rfl rfl rfl _ _ _ rfl rfl (by first | with_reducible assumption | exact Is.const64 (by decide +kernel) | exact Is.const32 (by decide +kernel)) (by first | with_reducible assumption | exact Is.const64 (by decide +kernel) | exact Is.const32 (by decide +kernel)) HB.out ?_) | (refine wpList_cmd _ _ _ _ _ rfl rfl rfl _ _ _ rfl rfl (by first | with_reducible assumption | exact Is.const64 (by decide +kernel) | exact Is.const32 (by decide +kernel)) (by first | with_reducible assumption | exact Is.const64 (by decide +kernel) | exact Is.const32 (by decide +kernel)) HD.out ?_) | (refine wpList_ar _ _ _ _ _ rfl rfl rfl _ _ _ rfl rfl (by first | with_reducible assumption | exact Is.const64 (by decide +kernel) | exact Is.const32 (by decide +kernel)) (by first | with_reducible assumption | exact Is.const64 (by decide +kernel) | exact Is.const32 (by decide +kernel)) ?_; intro r n hr))
    go_ret
    exact PostC.mk (Is.const32 (by decide +kernel)) Is.zero32

theorem specPhNot (x : Nat) (v : Option Nat) (hx : Is .f64 x v) (hf : fop .sub .f64 v v = none) (w : World) :
    Calls Try.prog 81 #[.float .f64 x] w (PostC none none w) := by
  have HA := Lib.hid (neq_not hf)
  have hn : Is .f32 2143289344 none := ⟨by decide +kernel, by decide⟩
  clear hf
  go_enter Try.func81, Try.ntmps81
  go_wp2_with (first | (refine wpList_cmd _ _ _ _ _ rfl rfl rfl _ _ _ rfl rfl (by first | with_reducible assumption | exact Is.const64 (by decide +kernel) | exact Is.const32 (by decide +kernel)) (by first | with_reducible assumption | exact Is.const64 (by decide +kernel) | exact Is.const32 (by decide +kernel)) HA.out ?_) | (refine wpList_ar _ _ _ _ _ rfl rfl rfl _ _ _ rfl rfl (by first | with_reducible assumption | exact Is.const64 (by decide +kernel) | exact Is.const32 (by decide +kernel)) (by first | with_reducible assumption | exact Is.const64 (by decide +kernel) | exact Is.const32 (by decide +kernel)) ?_; intro r n hr) | (go_at_call 61; refine (specFrom _ (by omega) (by omega) _).mono ?_; rintro e w' ⟨rfl, rfl⟩))
  go_ret
  exact PostC.mk hn hn

def phR (x : Nat) : Option Nat := if double.rungOf x < double.infRung then (if bigB x then some 1065353216 else phRe (phQ x).2 (phC x) (phS x)) else none
def phI (x : Nat) : Option Nat := if double.rungOf x < double.infRung then (if bigB x then some 0 else phIm (phQ x).2 (phC x) (phS x)) else none

theorem implPh40 (x : Nat) (h64 : x < 18446744073709551616) (w : World) : Calls Try.prog 40 #[.float .f64 x] w (PostC (phR x) (phI x) w) := by
  unfold phR phI
  by_cases hf : double.rungOf x < double.infRung
  · rw [if_pos hf, if_pos hf]
    cases hb : bigB x with
    | true => exact implPhBig x h64 hf hb w
    | false => exact implPhFin x h64 hf hb w
  · rw [if_neg hf, if_neg hf]; exact implPhNot x hf w

theorem specPh81 (x : Nat) (h64 : x < 18446744073709551616) (w : World) : Calls Try.prog 81 #[.float .f64 x] w (PostC (phR x) (phI x) w) := by
  unfold phR phI
  by_cases hf : double.rungOf x < double.infRung
  · rw [if_pos hf, if_pos hf]
    cases hb : bigB x with
    | true => exact specPhBig x h64 hf hb w
    | false => exact specPhFin x h64 hf hb w
  · rw [if_neg hf, if_neg hf]
    have hs := sub_self_not .f64 (b := x) hf
    have hi := is64 x h64
    obtain ⟨v, hv⟩ : ∃ v, v = val .f64 x := ⟨_, rfl⟩
    rw [← hv] at hs hi
    exact specPhNot x v hi hs w

theorem specPh39 (x : Nat) (h64 : x < 18446744073709551616) (w : World) : Calls Try.prog 39 #[.float .f64 x] w (PostC (phR x) (phI x) w) := by
  have C0 := Lib.hid (specPh81 x h64)
  go_enter Try.func39, Try.ntmps39
  go_wp2_with (first | (go_at_call 81; refine (C0.out _).mono ?_; rintro e w' ⟨r, s, n, rfl, hr, hs, rfl⟩))
  go_ret
  exact PostC.mk (by assumption) (by assumption)

theorem sameComplex41 (a b c d : Nat) (u v : Option Nat) (ha : Is .f64 a u) (hb : Is .f64 b v) (hc : Is .f64 c u) (hd : Is .f64 d v) (w : World) :
    Calls Try.prog 41 #[.complex .f64 a b, .complex .f64 c d] w fun e w' => e = .returned (.bool true) ∧ ∃ n, w' = w.drewN n := by
  go_enter Try.func41, Try.ntmps41
  go_wp2_with (first | (go_at_call 19; ((with_reducible refine (sameFloat _ _ _ ha hc _).mono ?_); rintro e w' ⟨rfl, n, rfl⟩)) | (go_at_call 19; ((with_reducible refine (sameFloat _ _ _ hb hd _).mono ?_); rintro e w' ⟨rfl, n, rfl⟩)))
  go_ret
  exact ⟨rfl, _, rfl⟩

theorem phasorWalk (a0 : Nat) (w : World) (w0 : (Lit.float .f64 a0).wf = true) :
    Calls Try.prog 12 #[.float .f64 a0] w fun e w' => e = .returned (.bool true) ∧ Below w.heap.size w w' := by
  have hb := lt64 w0
  clear w0
  have c1 := specPh39 _ hb
  have c2 := implPh40 _ hb
  obtain ⟨U, hU⟩ : ∃ U, U = phR a0 := ⟨_, rfl⟩
  obtain ⟨V, hV⟩ : ∃ V, V = phI a0 := ⟨_, rfl⟩
  rw [← hU, ← hV] at c1 c2
  have C1 := Lib.hid c1
  have C2 := Lib.hid c2
  clear c1 c2 hU hV
  go_enter Try.func12, Try.ntmps12
  go_wp2_with (first | (go_at_call 39; refine (C1.out _).mono ?_; rintro e w' ⟨rW, sW, nW, rfl, hW, kW, rfl⟩) | (go_at_call 40; refine (C2.out _).mono ?_; rintro e w' ⟨rG, sG, nG, rfl, hG, kG, rfl⟩) | (refine wpList_cwi _ _ _ rfl rfl _ _ rfl (by kernel_rfl) (by kernel_rfl) (by with_reducible assumption) (by with_reducible assumption) ?_; intro r s n hr hs) | (go_at_call 41; refine (sameComplex41 _ _ _ _ _ _ (by assumption) (by assumption) (by assumption) (by assumption) _).mono ?_; rintro e w' ⟨rfl, n, rfl⟩))
  go_ret
  exact ⟨rfl, below_drewN (Below.refl _ _) _⟩
end Go.Proofs.Ytigcnipgmjmenaa
