/- Walks: the sines of turns. -/
import Derived.Test.YtigcnipgmjmenaaS2
import Derived.Test.YtigcnipgmjmenaaFx
namespace Go.Proofs.Ytigcnipgmjmenaa
open Go.Fl Go.RowKit Ieee
set_option exponentiation.threshold 3000
set_option linter.unusedVariables false
set_option linter.unusedSimpArgs false

theorem specSineBig (x : Nat) (h64 : x < 18446744073709551616) (hf : double.rungOf x < double.infRung) (hbig : bigB x = true) (w : World) :
    Calls Try.prog 107 #[.float .f64 x] w (Post64 (some 0) w) := by
  have hx : Is .f64 x (some x) := Is.fin h64 hf
  have HA := Lib.hid (neq_fin hf)
  rcases (big_specV (nan_of_fin .f64 hf)).1 hbig with hb | ⟨hb, hd⟩
  · have HB := Lib.hid hb
    clear hb hbig hf
    go_enter Try.func107, Try.ntmps107
    go_wp2_with (first | (refine wpList_cmd _ _ _ _ _ rfl rfl rfl _ _ _ rfl rfl (by first | assumption | exact Is.const64 (by decide +kernel)) (by first | assumption | exact Is.const64 (by decide +kernel)) HA.out ?_) | (refine wpList_cmd _ _ _ _ _ rfl rfl rfl _ _ _ rfl rfl (by first | assumption | exact Is.const64 (by decide +kernel)) (by first | assumption | exact Is.const64 (by decide +kernel)) HB.out ?_) | (refine wpList_ar _ _ _ _ _ rfl rfl rfl _ _ _ rfl rfl (by first | assumption | exact Is.const64 (by decide +kernel)) (by first | assumption | exact Is.const64 (by decide +kernel)) ?_; intro r n hr))
    go_ret
    exact Post64.mk Is.zero64
  · have HB := Lib.hid hb
    have HD := Lib.hid hd
    clear hb hd hbig hf
    go_enter Try.func107, Try.ntmps107
    go_wp2_with (first | (refine wpList_cmd _ _ _ _ _ rfl rfl rfl _ _ _ rfl rfl (by first | assumption | exact Is.const64 (by decide +kernel)) (by first | assumption | exact Is.const64 (by decide +kernel)) HA.out ?_) | (refine wpList_cmd _ _ _ _ _ rfl rfl rfl _ _ _ rfl rfl (by first | assumption | exact Is.const64 (by decide +kernel)) (by first | assumption | exact Is.const64 (by decide +kernel)) HB.out ?_) | (refine wpList_cmd _ _ _ _ _ rfl rfl rfl _ _ _ rfl rfl (by first | assumption | exact Is.const64 (by decide +kernel)) (by first | assumption | exact Is.const64 (by decide +kernel)) HD.out ?_) | (refine wpList_ar _ _ _ _ _ rfl rfl rfl _ _ _ rfl rfl (by first | assumption | exact Is.const64 (by decide +kernel)) (by first | assumption | exact Is.const64 (by decide +kernel)) ?_; intro r n hr))
    go_ret
    exact Post64.mk Is.zero64

theorem specSineNot (x : Nat) (v : Option Nat) (hx : Is .f64 x v) (hf : fop .sub .f64 v v = none) (w : World) :
    Calls Try.prog 107 #[.float .f64 x] w (Post64 none w) := by
  have HA := Lib.hid (neq_not hf)
  clear hf
  go_enter Try.func107, Try.ntmps107
  go_wp2_with (first | (refine wpList_cmd _ _ _ _ _ rfl rfl rfl _ _ _ rfl rfl (by first | assumption | exact Is.const64 (by decide +kernel)) (by first | assumption | exact Is.const64 (by decide +kernel)) HA.out ?_) | (refine wpList_ar _ _ _ _ _ rfl rfl rfl _ _ _ rfl rfl (by first | assumption | exact Is.const64 (by decide +kernel)) (by first | assumption | exact Is.const64 (by decide +kernel)) ?_; intro r n hr) | (go_at_call 72; refine (nan72 _).mono ?_; rintro e w' ⟨r, n, rfl, hr, rfl⟩))
  go_ret
  exact Post64.mk (by assumption)

theorem specSine (x : Nat) (b : Nat) (hb : b < 4294967296) (hx : Is .f64 x (widen (val .f32 b))) (w : World) :
    Calls Try.prog 107 #[.float .f64 x] w (Post64 (if single.rungOf b < single.infRung then (if bigB (wideN b) then some 0 else sineF (fracV (wideN b))) else none) w) := by
  by_cases hf : single.rungOf b < single.infRung
  · rw [if_pos hf]
    obtain ⟨h1, h2, h3, -, -⟩ := wideN_fin hf
    rw [h1] at hx
    obtain ⟨rfl, -⟩ := hx.some
    cases hbig : bigB (wideN b) with
    | true => rw [if_pos rfl]; exact specSineBig _ h3 h2 hbig w
    | false => rw [if_neg (by decide)]; exact specSineFin _ h3 h2 hbig w
  · rw [if_neg hf]
    exact specSineNot x _ hx (wide_not hf) w

theorem sineS_narrow (b : Nat) : NarrowOk (if single.rungOf b < single.infRung then (if bigB (wideN b) then some 0 else sineF (fracV (wideN b))) else none) ∧
    narrow (if single.rungOf b < single.infRung then (if bigB (wideN b) then some 0 else sineF (fracV (wideN b))) else none) = sineS b := by
  unfold sineS
  by_cases hf : single.rungOf b < single.infRung
  · rw [if_pos hf, if_pos hf]
    cases hbig : bigB (wideN b) with
    | true => rw [if_pos rfl, if_pos rfl]; exact ⟨zero_ok, narrow_zero⟩
    | false => rw [if_neg (by decide), if_neg (by decide)]; exact ⟨sineF_ok hbig, rfl⟩
  · rw [if_neg hf, if_neg hf]; exact ⟨narrow_none, rfl⟩

theorem specSine75 (b : Nat) (hb : b < 4294967296) (w : World) : Calls Try.prog 75 #[.float .f32 b] w (Post32 (sineS b) w) := by
  have h0 : Is .f32 b (val .f32 b) := Is.of_lt hb
  have C := fun x hx w => specSine x b hb hx w
  obtain ⟨hok, hn⟩ := sineS_narrow b
  rw [← hn]
  clear hn
  obtain ⟨V, hV⟩ : ∃ V, V = (if single.rungOf b < single.infRung then (if bigB (wideN b) then some 0 else sineF (fracV (wideN b))) else none) := ⟨_, rfl⟩
  rw [← hV] at C hok ⊢
  clear hV
  have C0 := Lib.hid C
  have HOK := Lib.hid hok
  clear C hok
  go_enter Try.func75, Try.ntmps75
  go_wp2_with (first | (refine wpList_wi _ _ _ rfl rfl _ rfl (by kernel_rfl) (by kernel_rfl) (by assumption) ?_; intro r n hr) | (go_at_call 107; refine (C0.out _ (by assumption) _).mono ?_; rintro e w' ⟨r, n, rfl, hr, rfl⟩) | (go_at_call 105; refine (narrow105' _ _ (by assumption) HOK.out _).mono ?_; rintro e w' ⟨r, n, rfl, hr, rfl⟩))
  go_ret
  exact Post32.mk (by assumption)

theorem specSine34 (b : Nat) (hb : b < 4294967296) (w : World) : Calls Try.prog 34 #[.float .f32 b] w (Post32 (sineS b) w) := by
  have C0 := Lib.hid (specSine75 b hb)
  go_enter Try.func34, Try.ntmps34
  go_wp2_with (first | (go_at_call 75; refine (C0.out _).mono ?_; rintro e w' ⟨r, n, rfl, hr, rfl⟩))
  go_ret
  exact Post32.mk (by assumption)

theorem implSineFin (b : Nat) (hb : b < 4294967296) (hf : single.rungOf b < single.infRung) (hbig : bigB (wideN b) = false) (w : World) :
    Calls Try.prog 35 #[.float .f32 b] w (Post32 (narrow (sineF (fracV (wideN b)))) w) := by
  have h0 : Is .f32 b (val .f32 b) := Is.of_lt hb
  have hd : decide (single.rungOf b < single.infRung) = true := decide_eq_true hf
  obtain ⟨h1, h2, h3, -, -⟩ := wideN_fin hf
  have hnn := nan_of_fin .f64 h2
  have HB := Lib.hid ((big_absV hnn).trans hbig)
  have hab := absB_is hnn
  have H1 := Lib.hid h1
  have C0 := Lib.hid (implSine _ h3 (not_big hbig))
  have HOK := Lib.hid (sineF_ok hbig)
  have HD := Lib.hid hd
  clear h1 hnn hbig hd hf
  go_enter Try.func35, Try.ntmps35
  go_wp2_with (first | (go_at_call 73; refine (isFinite73 _ _).mono ?_; rintro e w' ⟨rfl, n, rfl⟩; rw [HD.out]) | (refine wpList_wi _ _ _ rfl rfl _ rfl (by kernel_rfl) (by kernel_rfl) (by assumption) ?_; intro r n hr; rw [H1.out] at hr; obtain ⟨rfl, -⟩ := hr.some; clear hr) | (go_at_call 76; refine (abs _ h3 _).mono ?_; rintro e w' ⟨rfl, rfl⟩) | (refine wpList_cmd _ _ _ _ _ rfl rfl rfl _ _ _ rfl rfl (by first | exact hab | assumption | exact Is.const64 (by decide +kernel)) (by first | assumption | exact Is.const64 (by decide +kernel)) HB.out ?_) | (go_at_call 77; refine (C0.out _).mono ?_; rintro e w' ⟨r, n, rfl, hr, rfl⟩) | (refine wpList_na _ _ _ rfl rfl _ rfl (by kernel_rfl) (by kernel_rfl) (by assumption) HOK.out ?_; intro r n hr))
  go_ret
  exact Post32.mk (by assumption)

theorem implSineBig (b : Nat) (hb : b < 4294967296) (hf : single.rungOf b < single.infRung) (hbig : bigB (wideN b) = true) (w : World) :
    Calls Try.prog 35 #[.float .f32 b] w (Post32 (some 0) w) := by
  have h0 : Is .f32 b (val .f32 b) := Is.of_lt hb
  have hd : decide (single.rungOf b < single.infRung) = true := decide_eq_true hf
  obtain ⟨h1, h2, h3, -, -⟩ := wideN_fin hf
  have hnn := nan_of_fin .f64 h2
  have HB := Lib.hid ((big_absV hnn).trans hbig)
  have hab := absB_is hnn
  have H1 := Lib.hid h1
  have HD := Lib.hid hd
  clear h1 hnn hbig hd hf
  go_enter Try.func35, Try.ntmps35
  go_wp2_with (first | (go_at_call 73; refine (isFinite73 _ _).mono ?_; rintro e w' ⟨rfl, n, rfl⟩; rw [HD.out]) | (refine wpList_wi _ _ _ rfl rfl _ rfl (by kernel_rfl) (by kernel_rfl) (by assumption) ?_; intro r n hr; rw [H1.out] at hr; obtain ⟨rfl, -⟩ := hr.some; clear hr) | (go_at_call 76; refine (abs _ h3 _).mono ?_; rintro e w' ⟨rfl, rfl⟩) | (refine wpList_cmd _ _ _ _ _ rfl rfl rfl _ _ _ rfl rfl (by first | exact hab | assumption | exact Is.const64 (by decide +kernel)) (by first | assumption | exact Is.const64 (by decide +kernel)) HB.out ?_))
  go_ret
  exact Post32.mk Is.zero32

theorem implSineNot (b : Nat) (hf : ¬ single.rungOf b < single.infRung) (w : World) :
    Calls Try.prog 35 #[.float .f32 b] w (Post32 none w) := by
  have HD := Lib.hid (decide_eq_false hf)
  clear hf
  go_enter Try.func35, Try.ntmps35
  go_wp2_with (first | (go_at_call 73; refine (isFinite73 _ _).mono ?_; rintro e w' ⟨rfl, n, rfl⟩; rw [HD.out]) | (go_at_call 72; refine (nan72 _).mono ?_; rintro e w' ⟨r, n, rfl, hr, rfl⟩) | (refine wpList_na _ _ _ rfl rfl _ rfl (by kernel_rfl) (by kernel_rfl) (by assumption) narrow_none ?_; intro r n hr))
  go_ret
  exact Post32.mk (by assumption)

theorem implSine35 (b : Nat) (hb : b < 4294967296) (w : World) : Calls Try.prog 35 #[.float .f32 b] w (Post32 (sineS b) w) := by
  unfold sineS
  by_cases hf : single.rungOf b < single.infRung
  · rw [if_pos hf]
    cases hbig : bigB (wideN b) with
    | true => rw [if_pos rfl]; exact implSineBig b hb hf hbig w
    | false => rw [if_neg (by decide)]; exact implSineFin b hb hf hbig w
  · rw [if_neg hf]; exact implSineNot b hf w

/-- Two singles of one value, as doubles, are the same. -/
theorem sameWide (a b : Nat) {x y : Nat} {V : Option Nat} (ha : Is .f64 a (widen (val .f32 x))) (hb : Is .f64 b (widen (val .f32 y))) (hx : Is .f32 x V) (hy : Is .f32 y V) (w : World) :
    Calls Try.prog 19 #[.float .f64 a, .float .f64 b] w fun e w' => e = .returned (.bool true) ∧ ∃ n, w' = w.drewN n := by
  rw [hx.1] at ha
  rw [hy.1] at hb
  exact sameFloat a b _ ha hb w

theorem sineWalk (a0 : Nat) (w : World) (w0 : (Lit.float .f32 a0).wf = true) :
    Calls Try.prog 9 #[.float .f32 a0] w fun e w' => e = .returned (.bool true) ∧ Below w.heap.size w w' := by
  have hb := lt32 w0
  clear w0
  have C1 := Lib.hid (specSine34 _ hb)
  have C2 := Lib.hid (implSine35 _ hb)
  go_enter Try.func9, Try.ntmps9
  go_wp2_with (first | (go_at_call 34; refine (C1.out _).mono ?_; rintro e w' ⟨rW, nW, rfl, hW, rfl⟩) | (go_at_call 35; refine (C2.out _).mono ?_; rintro e w' ⟨rG, nG, rfl, hG, rfl⟩) | (refine wpList_widen _ _ _ rfl rfl _ rfl (by kernel_rfl) (by kernel_rfl) ?_; intro r n hr) | (go_at_call 19; refine (sameWide _ _ ‹_› ‹_› hG hW _).mono ?_; rintro e w' ⟨rfl, n, rfl⟩))
  go_ret
  exact ⟨rfl, below_drewN (Below.refl _ _) _⟩
end Go.Proofs.Ytigcnipgmjmenaa
