/- Walks: the floor; tenths of decibels. -/
import Derived.Test.YtigcnipgmjmenaaL3
import Derived.Test.YtigcnipgmjmenaaKf
namespace Go.Proofs.Ytigcnipgmjmenaa
open Go.Fl Go.RowKit Ieee
set_option exponentiation.threshold 3000
set_option linter.unusedVariables false
set_option linter.unusedSimpArgs false

theorem call110 (args : Array Value) (w : World) : (callFunc 110 args).run Try.prog w = ((Extern.MathFloor.toIntegral "math.archFloor" .down args).run Try.prog w).andThen fun v w' => .ok (.value v) w' :=
  run_callFunc_extern Try.func110 (by kernel_rfl) (by kernel_rfl) (by kernel_rfl) (by kernel_rfl) args w

theorem floor110 (x : Nat) (hf : double.rungOf x < double.infRung) (w : World) : (callFunc 110 #[.float .f64 x]).run Try.prog w = .ok (.value (.float .f64 (floorN x))) w := by
  rw [call110]
  obtain ⟨m, e, hr, -⟩ := double.read_fin hf
  have hd : FloatKind.f64.decode x = .number (double.isNeg x) m (double.leastPlace + (e : Nat)) := hr
  have h1 : Extern.MathFloor.toIntegral "math.archFloor" .down #[.float .f64 x] = pure (.float .f64 (floorN x)) := by
    delta Extern.MathFloor.toIntegral
    conv => lhs; whnf
    rw [hd]
    unfold floorN
    rw [hr]
    rfl
  rw [h1]
  simp

theorem floor86 (x : Nat) (hf : double.rungOf x < double.infRung) (w : World) : Calls Try.prog 86 #[.float .f64 x] w fun e w' => e = .returned (.float .f64 (floorN x)) ∧ w = w' := by
  have hc := fun w => floor110 x hf w
  clear hf
  go_enter Try.func86, Try.ntmps86
  go_wp2
  go_ret
  exact ⟨rfl, rfl⟩

theorem specFin84 (b : Nat) (w : World) : Calls Try.prog 84 #[.float .f32 b] w fun e w' => e = .returned (.bool (decide (single.rungOf b < single.infRung))) ∧ ∃ n, w' = w.drewN n := by
  go_enter Try.func84, Try.ntmps84
  go_wp2_with (refine wpList_farith _ _ _ _ _ rfl rfl rfl _ _ _ rfl rfl ?_; intro r n hr)
  go_ret
  exact ⟨by rw [← show _ = decide (single.rungOf b < single.infRung) from fin_test .f32 b _ hr]; rfl, _, rfl⟩

theorem leqV0 (k : FloatKind) (b : Nat) : cmpV .leq k (some b) (some 0) = (decide (k.format.rungOf b = 0) || k.format.isNeg b) := by
  unfold cmpV
  rw [cmp0]
  by_cases hr : k.format.rungOf b = 0
  · rw [if_pos hr]; simp [hr]
  · rw [if_neg hr]
    cases k.format.isNeg b <;> simp [hr]

/-- Are there tenths? -/
def tenB (b : Nat) : Bool := decide (single.rungOf b < single.infRung) && !cmpV .leq .f32 (val .f32 b) (some 0)
def TenPost (n : Int) (c : Bool) (w : World) (e : Ending) (w' : World) : Prop := e = .returned (.tuple #[.int .i64 n, .bool c]) ∧ ∃ n, w' = w.drewN n

theorem ten_pos {b : Nat} (h : tenB b = true) : single.rungOf b < single.infRung ∧ val .f32 b = some b ∧ cmpV .leq .f32 (some b) (some 0) = false ∧ 874 * 4503599627370496 ≤ wideN b ∧ wideN b < 1151 * 4503599627370496 := by
  unfold tenB at h
  obtain ⟨h1, h2⟩ := Bool.and_eq_true_iff.1 h
  have hf := of_decide_eq_true h1
  have hv : val .f32 b = some b := val_num (k := .f32) (nan_of_fin .f32 hf)
  rw [hv] at h2
  have h3 : cmpV .leq .f32 (some b) (some 0) = false := by simpa using h2
  have h4 := h3
  rw [leqV0] at h4
  obtain ⟨h5, h6⟩ := Bool.or_eq_false_iff.1 h4
  obtain ⟨h7, h8⟩ := pos_wide (b := b) h6 (of_decide_eq_false h5) hf
  exact ⟨hf, hv, h3, h7, h8⟩

theorem implTenNo (b : Nat) (hb : b < 4294967296) (h : tenB b = false) (w : World) : Calls Try.prog 43 #[.float .f32 b] w (TenPost 0 false w) := by
  have hx : Is .f32 b (val .f32 b) := Is.of_lt hb
  unfold tenB at h
  cases hf : decide (single.rungOf b < single.infRung) with
  | false =>
    have HD := Lib.hid hf
    clear hf h
    go_enter Try.func43, Try.ntmps43
    go_wp2_with (first | (go_at_call 73; refine (isFinite73 _ _).mono ?_; rintro e w' ⟨rfl, n, rfl⟩; rw [HD.out]))
    go_ret2
    exact ⟨rfl, _, rfl⟩
  | true =>
    rw [hf] at h
    have HD := Lib.hid hf
    have HL := Lib.hid (show cmpV .leq .f32 (val .f32 b) (some 0) = true by simpa using h)
    obtain ⟨v, hv⟩ : ∃ v, v = val .f32 b := ⟨_, rfl⟩
    rw [← hv] at hx HL
    clear hf h hv
    go_enter Try.func43, Try.ntmps43
    go_wp2_with (first | (go_at_call 73; refine (isFinite73 _ _).mono ?_; rintro e w' ⟨rfl, n, rfl⟩; rw [HD.out]) | (refine wpList_cmd _ _ _ _ _ rfl rfl rfl _ _ _ rfl rfl (by first | with_reducible assumption | exact Is.const64 (by decide +kernel) | exact Is.const32 (by decide +kernel)) (by first | with_reducible assumption | exact Is.const64 (by decide +kernel) | exact Is.const32 (by decide +kernel)) HL.out ?_))
    go_ret2
    exact ⟨rfl, _, rfl⟩

theorem specTenNo (b : Nat) (hb : b < 4294967296) (h : tenB b = false) (w : World) : Calls Try.prog 42 #[.float .f32 b] w (TenPost 0 false w) := by
  have hx : Is .f32 b (val .f32 b) := Is.of_lt hb
  unfold tenB at h
  cases hf : decide (single.rungOf b < single.infRung) with
  | false =>
    have HD := Lib.hid hf
    clear hf h
    go_enter Try.func42, Try.ntmps42
    go_wp2_with (first | (go_at_call 84; refine (specFin84 _ _).mono ?_; rintro e w' ⟨rfl, n, rfl⟩; rw [HD.out]))
    go_ret2
    exact ⟨rfl, _, rfl⟩
  | true =>
    rw [hf] at h
    have HD := Lib.hid hf
    have HL := Lib.hid (show cmpV .leq .f32 (val .f32 b) (some 0) = true by simpa using h)
    obtain ⟨v, hv⟩ : ∃ v, v = val .f32 b := ⟨_, rfl⟩
    rw [← hv] at hx HL
    clear hf h hv
    go_enter Try.func42, Try.ntmps42
    go_wp2_with (first | (go_at_call 84; refine (specFin84 _ _).mono ?_; rintro e w' ⟨rfl, n, rfl⟩; rw [HD.out]) | (refine wpList_cmd _ _ _ _ _ rfl rfl rfl _ _ _ rfl rfl (by first | with_reducible assumption | exact Is.const64 (by decide +kernel) | exact Is.const32 (by decide +kernel)) (by first | with_reducible assumption | exact Is.const64 (by decide +kernel) | exact Is.const32 (by decide +kernel)) HL.out ?_))
    go_ret2
    exact ⟨rfl, _, rfl⟩

theorem implTenYes (b : Nat) (hb : b < 4294967296) (h : tenB b = true) (w : World) : Calls Try.prog 43 #[.float .f32 b] w (TenPost (tenN b) true w) := by
  obtain ⟨hf, hv, hl, h0, h1⟩ := ten_pos h
  have hx : Is .f32 b (some b) := (Is.of_lt hb).trans' hv
  have HD := Lib.hid (decide_eq_true hf)
  have HL := Lib.hid hl
  have HW : Hid (widen (some b) = some (wideN b)) := rfl
  have C0 := Lib.hid (implLog _ h0 h1)
  obtain ⟨k1, k2, k3, k4⟩ := tenX_get h0 h1
  have HX : Hid (fop .add .f64 (fop .mul .f64 (logF (wideN b)) (some 4631308968768463603)) (some half) = some ((tenX b).getD 0)) := k1
  obtain ⟨X, hX⟩ : ∃ X, X = (tenX b).getD 0 := ⟨_, rfl⟩
  rw [← hX] at HX k2 k3 k4
  have CF := Lib.hid (floor86 X k2)
  have HN := Lib.hid k3
  obtain ⟨T, hT⟩ : ∃ T, T = tenN b := ⟨_, rfl⟩
  rw [← hT] at HN ⊢
  clear h h0 h1 hf hv hl k1 k2 k3 hX hT
  go_enter Try.func43, Try.ntmps43
  go_wp2_with (first | (go_at_call 73; refine (isFinite73 _ _).mono ?_; rintro e w' ⟨rfl, n, rfl⟩; rw [HD.out]) | (refine wpList_cmd _ _ _ _ _ rfl rfl rfl _ _ _ rfl rfl (by first | with_reducible assumption | exact Is.const64 (by decide +kernel) | exact Is.const32 (by decide +kernel)) (by first | with_reducible assumption | exact Is.const64 (by decide +kernel) | exact Is.const32 (by decide +kernel)) HL.out ?_) | (refine wpList_wi _ _ _ rfl rfl _ rfl (by kernel_rfl) (by kernel_rfl) (by assumption) ?_; intro r n hr; rw [HW.out] at hr; obtain ⟨rfl, -⟩ := hr.some; clear hr) | (go_at_call 74; refine (C0.out _).mono ?_; rintro e w' ⟨r, n, rfl, hr, rfl⟩) | (refine wpList_ar _ _ _ _ _ rfl rfl rfl _ _ _ rfl rfl (by first | with_reducible assumption | exact Is.const64 (by decide +kernel) | exact Is.const32 (by decide +kernel)) (by first | with_reducible assumption | exact Is.const64 (by decide +kernel) | exact Is.const32 (by decide +kernel)) ?_; intro r n hr; (try (rw [HX.out] at hr; obtain ⟨rfl, -⟩ := hr.some; clear hr))) | (go_at_call 86; refine (CF.out _).mono ?_; rintro e w' ⟨rfl, rfl⟩) | (refine wpList_ftoi _ _ _ rfl rfl _ _ _ rfl (by kernel_rfl) (by kernel_rfl) HN.out ?_))
  go_ret2
  exact ⟨rfl, _, rfl⟩

theorem specTen85 (b : Nat) (hb : b < 4294967296) (h : tenB b = true) (w : World) : Calls Try.prog 85 #[.float .f32 b] w fun e w' => e = .returned (.int .i64 (tenN b)) ∧ ∃ n, w' = w.drewN n := by
  obtain ⟨hf, hv, hl, h0, h1⟩ := ten_pos h
  have hx : Is .f32 b (some b) := (Is.of_lt hb).trans' hv
  have HW : Hid (widen (some b) = some (wideN b)) := rfl
  have C0 := Lib.hid (specLogPos _ h0 h1)
  obtain ⟨k1, k2, k3, k4⟩ := tenX_get h0 h1
  have HX : Hid (fop .add .f64 (fop .mul .f64 (logF (wideN b)) (some 4631308968768463603)) (some half) = some ((tenX b).getD 0)) := k1
  obtain ⟨X, hX⟩ : ∃ X, X = (tenX b).getD 0 := ⟨_, rfl⟩
  rw [← hX] at HX k2 k3 k4
  have CF := Lib.hid (floor86 X k2)
  have HN := Lib.hid k3
  obtain ⟨T, hT⟩ : ∃ T, T = tenN b := ⟨_, rfl⟩
  rw [← hT] at HN ⊢
  clear h h0 h1 hf hv hl k1 k2 k3 hX hT
  go_enter Try.func85, Try.ntmps85
  go_wp2_with (first | (refine wpList_wi _ _ _ rfl rfl _ rfl (by kernel_rfl) (by kernel_rfl) (by assumption) ?_; intro r n hr; rw [HW.out] at hr; obtain ⟨rfl, -⟩ := hr.some; clear hr) | (go_at_call 109; refine (C0.out _).mono ?_; rintro e w' ⟨r, n, rfl, hr, rfl⟩) | (refine wpList_ar _ _ _ _ _ rfl rfl rfl _ _ _ rfl rfl (by first | with_reducible assumption | exact Is.const64 (by decide +kernel) | exact Is.const32 (by decide +kernel)) (by first | with_reducible assumption | exact Is.const64 (by decide +kernel) | exact Is.const32 (by decide +kernel)) ?_; intro r n hr; (try (rw [HX.out] at hr; obtain ⟨rfl, -⟩ := hr.some; clear hr))) | (go_at_call 86; refine (CF.out _).mono ?_; rintro e w' ⟨rfl, rfl⟩) | (refine wpList_ftoi _ _ _ rfl rfl _ _ _ rfl (by kernel_rfl) (by kernel_rfl) HN.out ?_))
  go_ret
  exact ⟨rfl, _, rfl⟩

theorem specTenYes (b : Nat) (hb : b < 4294967296) (h : tenB b = true) (w : World) : Calls Try.prog 42 #[.float .f32 b] w (TenPost (tenN b) true w) := by
  obtain ⟨hf, hv, hl, h0, h1⟩ := ten_pos h
  have hx : Is .f32 b (some b) := (Is.of_lt hb).trans' hv
  have HD := Lib.hid (decide_eq_true hf)
  have HL := Lib.hid hl
  have C0 := Lib.hid (specTen85 b hb h)
  obtain ⟨T, hT⟩ : ∃ T, T = tenN b := ⟨_, rfl⟩
  rw [← hT] at C0 ⊢
  clear h h0 h1 hf hv hl hT
  go_enter Try.func42, Try.ntmps42
  go_wp2_with (first | (go_at_call 84; refine (specFin84 _ _).mono ?_; rintro e w' ⟨rfl, n, rfl⟩; rw [HD.out]) | (refine wpList_cmd _ _ _ _ _ rfl rfl rfl _ _ _ rfl rfl (by first | with_reducible assumption | exact Is.const64 (by decide +kernel) | exact Is.const32 (by decide +kernel)) (by first | with_reducible assumption | exact Is.const64 (by decide +kernel) | exact Is.const32 (by decide +kernel)) HL.out ?_) | (go_at_call 85; refine (C0.out _).mono ?_; rintro e w' ⟨rfl, n, rfl⟩))
  go_ret2
  exact ⟨rfl, _, rfl⟩

theorem implTen43 (b : Nat) (hb : b < 4294967296) (w : World) : Calls Try.prog 43 #[.float .f32 b] w (TenPost (if tenB b then tenN b else 0) (tenB b) w) := by
  cases h : tenB b with
  | true => exact implTenYes b hb h w
  | false => exact implTenNo b hb h w
theorem specTen42 (b : Nat) (hb : b < 4294967296) (w : World) : Calls Try.prog 42 #[.float .f32 b] w (TenPost (if tenB b then tenN b else 0) (tenB b) w) := by
  cases h : tenB b with
  | true => exact specTenYes b hb h w
  | false => exact specTenNo b hb h w

theorem tenthsWalk (a0 : Nat) (w : World) (w0 : (Lit.float .f32 a0).wf = true) :
    Calls Try.prog 13 #[.float .f32 a0] w fun e w' => e = .returned (.bool true) ∧ Below w.heap.size w w' := by
  have hb := lt32 w0
  clear w0
  have c1 := specTen42 _ hb
  have c2 := implTen43 _ hb
  obtain ⟨T, hT⟩ : ∃ T, T = (if tenB a0 then tenN a0 else 0) := ⟨_, rfl⟩
  obtain ⟨B, hB⟩ : ∃ B, B = tenB a0 := ⟨_, rfl⟩
  rw [← hT, ← hB] at c1 c2
  have C1 := Lib.hid c1
  have C2 := Lib.hid c2
  clear c1 c2 hT hB
  go_enter Try.func13, Try.ntmps13
  go_wp2_with (first | (go_at_call 42; refine (C1.out _).mono ?_; rintro e w' ⟨rfl, n, rfl⟩) | (go_at_call 43; refine (C2.out _).mono ?_; rintro e w' ⟨rfl, n, rfl⟩))
  go_ret
  exact ⟨rfl, below_drewN (Below.refl _ _) _⟩
end Go.Proofs.Ytigcnipgmjmenaa
