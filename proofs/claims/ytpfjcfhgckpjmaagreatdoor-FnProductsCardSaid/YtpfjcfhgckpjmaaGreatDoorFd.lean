/- Walks of the laws of numbers, at this seat. Plain facts on singles: widened and narrowed again, their bits, flushed numbers. Walks of the laws of numbers, at this seat. -/
import Derived.Test.YtpfjcfhgckpjmaaGreatDoorA
import Derived.Test.YtpfjcfhgckpjmaaGreatDoorFf
import Derived.Test.YtpfjcfhgckpjmaaGreatDoorFs
import Derived.Test.YtpfjcfhgckpjmaaGreatDoorFw
import Derived.Test.YtpfjcfhgckpjmaaGreatDoorFx
import Derived.Test.YtpfjcfhgckpjmaaGreatDoorFz
import Derived.Deep.LoopGhost
import Derived.Test.YtpfjcfhgckpjmaaGreatDoorSf
import Derived.Test.YtpfjcfhgckpjmaaGreatDoorEx
set_option linter.unusedVariables false
set_option linter.unusedSimpArgs false
namespace Go.Proofs.YtpfjcfhgckpjmaaGreatDoor
open Go.Fl Go.RowKit Ieee

theorem implFromBits (n : Int) (w : World) : Calls Tryz.prog 7 #[.int .i64 n] w fun e w' => (e = .returned (.tuple #[.float .f32 (if 0 ≤ n ∧ n ≤ 4294967295 then n.toNat else 0), .bool (decide (0 ≤ n ∧ n ≤ 4294967295))])) ∧ w = w' := by
  have hc := fun n w => from40 n w
  by_cases h0 : 0 ≤ n
  · by_cases h1 : n ≤ 4294967295
    · rw [if_pos ⟨h0, h1⟩, decide_eq_true (show 0 ≤ n ∧ n ≤ 4294967295 from ⟨h0, h1⟩)]
      go_enter Tryz.func7, Tryz.ntmps7
      go_wp2
      go_ret2
      exact ⟨rfl, rfl⟩
    · rw [if_neg (fun h => h1 h.2), decide_eq_false (fun h => h1 h.2)]
      go_enter Tryz.func7, Tryz.ntmps7
      go_wp2
      go_ret2
      exact ⟨rfl, rfl⟩
  · rw [if_neg (fun h => h0 h.1), decide_eq_false (fun h => h0 h.1)]
    go_enter Tryz.func7, Tryz.ntmps7
    go_wp2
    go_ret2
    exact ⟨rfl, rfl⟩

end Go.Proofs.YtpfjcfhgckpjmaaGreatDoor

namespace Go.Proofs.YtpfjcfhgckpjmaaGreatDoor
open Go.Fl Go.RowKit Ieee

theorem call120 (args : Array Value) (w : World) : (callFunc 45 args).run Tryz.prog w = ((Extern.MathFloatBits.float32bits args).run Tryz.prog w).andThen fun v w' => .ok (.value v) w' :=
  run_callFunc_extern Tryz.func45 (by kernel_rfl) (by kernel_rfl) (by kernel_rfl) (by kernel_rfl) args w
theorem bits120 (b : Nat) (w : World) : (callFunc 45 #[.float .f32 b]).run Tryz.prog w = .ok (.value (.int .u32 b)) w := by rw [call120]; rfl
theorem call103 (args : Array Value) (w : World) : (callFunc 71 args).run Tryz.prog w = ((Extern.MathFloatBits.float64frombits args).run Tryz.prog w).andThen fun v w' => .ok (.value v) w' :=
  run_callFunc_extern Tryz.func71 (by kernel_rfl) (by kernel_rfl) (by kernel_rfl) (by kernel_rfl) args w
theorem from103 (n : Int) (w : World) : (callFunc 71 #[.int .u64 n]).run Tryz.prog w = .ok (.value (.float .f64 n.toNat)) w := by rw [call103]; rfl
theorem call104 (args : Array Value) (w : World) : (callFunc 72 args).run Tryz.prog w = ((Extern.MathFloatBits.float64bits args).run Tryz.prog w).andThen fun v w' => .ok (.value v) w' :=
  run_callFunc_extern Tryz.func72 (by kernel_rfl) (by kernel_rfl) (by kernel_rfl) (by kernel_rfl) args w
theorem bits104 (b : Nat) (w : World) : (callFunc 72 #[.float .f64 b]).run Tryz.prog w = .ok (.value (.int .u64 b)) w := by rw [call104]; rfl

theorem specBits (b : Nat) (hb : b < 4294967296) (w : World) : Calls Tryz.prog 78 #[.float .f32 b] w fun e w' => e = .returned (.int .i64 (bitsV (val .f32 b))) ∧ w = w' := by
  have ho := neq_self .f32 b
  have hc := fun w => bits120 b w
  by_cases hn : FloatKind.f32.format.nan b = true
  · rw [hn] at ho
    rw [val_nan hn]
    clear hn
    go_enter Tryz.func78, Tryz.ntmps78
    go_wp2
    go_ret
    exact ⟨rfl, rfl⟩
  · have hn' : FloatKind.f32.format.nan b = false := by simpa using hn
    rw [hn'] at ho
    rw [val_num hn']
    clear hn hn'
    go_enter Tryz.func78, Tryz.ntmps78
    go_wp2
    go_ret
    exact ⟨rfl, rfl⟩

theorem abs (b : Nat) (hb : b < 18446744073709551616) (w : World) : Calls Tryz.prog 53 #[.float .f64 b] w fun e w' => e = .returned (.float .f64 (b % 9223372036854775808)) ∧ w = w' := by
  have hc := fun w => bits104 b w
  have hc2 := fun n w => from103 n w
  go_enter Tryz.func53, Tryz.ntmps53
  go_wp2
  go_ret
  exact ⟨by rw [← bits_andNot b hb]; rfl, rfl⟩

theorem copysign66 (r : Nat) (hr : r < 18446744073709551616) (w : World) : Calls Tryz.prog 46 #[.float .f64 0, .float .f64 r] w fun e w' => e = .returned (.float .f64 (signZero64 r)) ∧ w = w' := by
  have hc := fun b w => bits104 b w
  have hc2 := fun n w => from103 n w
  go_enter Tryz.func46, Tryz.ntmps46
  go_wp2
  go_ret
  exact ⟨by rw [← copysign r hr]; rfl, rfl⟩

/-- Is a number subnormal? -/
def subB (b : Nat) : Bool := (FloatKind.f32.format.order b 0 != some .eq) && lowB b

theorem implSub (b : Nat) (w : World) : Calls Tryz.prog 16 #[.float .f32 b] w fun e w' => e = .returned (.bool (subB b)) ∧ ∃ n, w' = w.drewN n := by
  cases h1 : (FloatKind.f32.format.order b 0 != some .eq) with
  | false =>
    have hs : subB b = false := by unfold subB; rw [h1]; rfl
    rw [hs]
    clear hs
    go_enter Tryz.func16, Tryz.ntmps16
    go_wp2
    go_ret
    exact ⟨rfl, 0, rfl⟩
  | true =>
    have hs : subB b = lowB b := by unfold subB; rw [h1]; rfl
    rw [hs]
    clear hs
    go_enter Tryz.func16, Tryz.ntmps16
    go_wp2_with (first | (refine wpList_widen _ _ _ rfl rfl _ rfl (by kernel_rfl) (by kernel_rfl) ?_; intro r n hr) | (go_at_call 53; refine (abs _ hr.2 _).mono ?_; rintro e w' ⟨rfl, rfl⟩))
    go_ret
    exact ⟨by rw [← low_impl hr]; rfl, _, rfl⟩

theorem implFlushNumber (b : Nat) (hb : b < 4294967296) (w : World) : Calls Tryz.prog 9 #[.float .f32 b] w fun e w' => ∃ r n, e = .returned (.float .f32 r) ∧ Is .f32 r (flushV b) ∧ w' = w.drewN n := by
  cases hs : subB b with
  | false =>
    have hf : flushV b = val .f32 b := by
      cases h0 : (FloatKind.f32.format.order b 0 != some .eq) with
      | false => exact flush_zero hb h0
      | true =>
        have : lowB b = false := by unfold subB at hs; rw [h0] at hs; exact hs
        unfold flushV; rw [this]; rfl
    rw [hf]
    have HS := Lib.hid hs
    clear hs hf
    go_enter Tryz.func9, Tryz.ntmps9
    go_wp2_with (go_at_call 16; refine (implSub _ _).mono ?_; rintro e w' ⟨rfl, n, rfl⟩; rw [HS.out])
    go_ret
    exact ⟨_, _, rfl, Is.of_lt hb, rfl⟩
  | true =>
    have hl : lowB b = true := by
      unfold subB at hs
      cases h0 : (FloatKind.f32.format.order b 0 != some .eq) with
      | false => rw [h0] at hs; cases hs
      | true => rw [h0] at hs; exact hs
    have hf : flushV b = .some (signZero b) := by unfold flushV; rw [hl]; rfl
    rw [hf]
    have HS := Lib.hid hs
    have HL := Lib.hid hl
    clear hs hf hl
    go_enter Tryz.func9, Tryz.ntmps9
    go_wp2_with (first | (go_at_call 16; refine (implSub _ _).mono ?_; rintro e w' ⟨rfl, n, rfl⟩; rw [HS.out]) | (refine wpList_widen _ _ _ rfl rfl _ rfl (by kernel_rfl) (by kernel_rfl) ?_; intro r n hr) | (go_at_call 46; refine (copysign66 _ hr.2 _).mono ?_; rintro e w' ⟨rfl, rfl⟩) | (refine wpList_narrow _ _ _ rfl rfl _ rfl (by kernel_rfl) (by kernel_rfl) (zero_narrow r).1 ?_; intro r3 n3 hr3))
    go_ret
    exact ⟨_, _, rfl, by rw [(zero_narrow r).2, sign_widen hb HL.out hr] at hr3; exact hr3, rfl⟩

end Go.Proofs.YtpfjcfhgckpjmaaGreatDoor

namespace Go.Proofs.YtpfjcfhgckpjmaaGreatDoor
open Go.Fl Go.RowKit Ieee

theorem narrow105 (b : Nat) (hok : NarrowOk (val .f64 b)) (w : World) : Calls Tryz.prog 81 #[.float .f64 b] w fun e w' => ∃ r n, e = .returned (.float .f32 r) ∧ Is .f32 r (narrow (val .f64 b)) ∧ w' = w.drewN n := by
  have H := Lib.hid hok
  clear hok
  go_enter Tryz.func81, Tryz.ntmps81
  go_wp2_with (refine wpList_narrow _ _ _ rfl rfl _ rfl (by kernel_rfl) (by kernel_rfl) H.out ?_; intro r n hr)
  go_ret
  exact ⟨_, _, rfl, hr, rfl⟩

theorem call108 (args : Array Value) (w : World) : (callFunc 79 args).run Tryz.prog w = ((Extern.MathSqrt.sqrt args).run Tryz.prog w).andThen fun v w' => .ok (.value v) w' :=
  run_callFunc_extern Tryz.func79 (by kernel_rfl) (by kernel_rfl) (by kernel_rfl) (by kernel_rfl) args w

theorem sqrt_open (x : Nat) : Extern.MathSqrt.sqrt #[.float .f64 x] = (match FloatKind.f64.format.sqrt x with | some r => (pure (.float .f64 r) : Sem Value) | none => do pure (.float .f64 (← choose (.nanBits .f64 x x)))) := rfl

theorem sqrt79 (x : Nat) (w : World) : Calls Tryz.prog 56 #[.float .f64 x] w fun e w' => ∃ r n, e = .returned (.float .f64 r) ∧ Is .f64 r (fsqrt (val .f64 x)) ∧ w' = w.drewN n := by
  cases h : double.sqrt x with
  | some r =>
    have hc : ∀ w, (callFunc 79 #[.float .f64 x]).run Tryz.prog w = .ok (.value (.float .f64 r)) w := fun w => by
      have h' : FloatKind.f64.format.sqrt x = some r := h
      rw [call108, sqrt_open, h']
      simp
    have hv : Is .f64 r (fsqrt (val .f64 x)) := by rw [← sqrt_val, h]; exact sqrt_is h
    have HV := Lib.hid hv
    clear h hv
    go_enter Tryz.func56, Tryz.ntmps56
    go_wp2
    go_ret
    exact ⟨_, 0, rfl, HV.out, rfl⟩
  | none =>
    have hc : ∀ w, (callFunc 79 #[.float .f64 x]).run Tryz.prog w = .ok (.value (.float .f64 ((Question.nanBits .f64 x x).cut (w.tape w.drawn (.nanBits .f64 x x))))) w.drew := fun w => by
      have h' : FloatKind.f64.format.sqrt x = none := h
      rw [call108, sqrt_open, h']
      simp [forced_nanBits]
    have hv : fsqrt (val .f64 x) = none := by rw [← sqrt_val, h]
    have HV := Lib.hid hv
    clear h hv
    go_enter Tryz.func56, Tryz.ntmps56
    go_wp2
    go_ret
    exact ⟨_, 1, rfl, by rw [HV.out]; exact nan_cut _ _ _ (.inl ⟨_, _, rfl⟩), rfl⟩

def rootV (b : Nat) : Option Nat := narrow (fsqrt (widen (val .f32 b)))

theorem spec78 (b : Nat) (w : World) : Calls Tryz.prog 61 #[.float .f32 b] w fun e w' => ∃ r n, e = .returned (.float .f32 r) ∧ Is .f32 r (rootV b) ∧ w' = w.drewN n := by
  have HN := Lib.hid (root_narrow b)
  go_enter Tryz.func61, Tryz.ntmps61
  go_wp2_with (first | (refine wpList_widen _ _ _ rfl rfl _ rfl (by kernel_rfl) (by kernel_rfl) ?_; intro r n hr) | (go_at_call 56; refine (sqrt79 _ _).mono ?_; rintro e w' ⟨r2, n2, rfl, hr2, rfl⟩) | (go_at_call 81; refine (narrow105 _ (by rw [hr2.1, hr.1]; exact HN.out) _).mono ?_; rintro e w' ⟨r3, n3, rfl, hr3, rfl⟩))
  go_ret
  exact ⟨_, _, rfl, by rw [hr2.1, hr.1] at hr3; exact hr3, rfl⟩

theorem spec36 (b : Nat) (w : World) : Calls Tryz.prog 26 #[.float .f32 b] w fun e w' => ∃ r n, e = .returned (.float .f32 r) ∧ Is .f32 r (rootV b) ∧ w' = w.drewN n := by
  go_enter Tryz.func26, Tryz.ntmps26
  go_wp2_with (go_at_call 61; refine (spec78 _ _).mono ?_; rintro e w' ⟨r, n, rfl, hr, rfl⟩)
  go_ret
  exact ⟨_, _, rfl, hr, rfl⟩

end Go.Proofs.YtpfjcfhgckpjmaaGreatDoor

namespace Go.Proofs.YtpfjcfhgckpjmaaGreatDoor
open Go.Fl Go.RowKit Ieee
set_option exponentiation.threshold 3000

theorem fraction83 (x : Nat) (h64 : x < 18446744073709551616) (hu : double.units (double.rungOf x) < 2 ^ 1126) (w : World) :
    Calls Tryz.prog 80 #[.float .f64 x] w (Post64 (fracV x) w) := by
  have hf : double.rungOf x < double.infRung := double.lt_inf_of_units (Nat.le_of_lt hu) (by rw [dinf]; exact two_pow_lt (by decide))
  have hx : Is .f64 x (some x) := Is.fin h64 hf
  have HN := Lib.hid (toIntVal hu).1
  have hw := (toIntVal hu).2
  have hI : Is .f64 (floatOfInt .f64 (wholeOf x)) (some (floatOfInt .f64 (wholeOf x))) := Is.ofInt (by omega)
  obtain ⟨F, hF⟩ : ∃ F, F = fop .sub .f64 (some x) (some (floatOfInt .f64 (wholeOf x))) := ⟨_, rfl⟩
  obtain ⟨V, hV⟩ : ∃ V, V = fracV x := ⟨_, rfl⟩
  have hV' : V = if cmpV .lss .f64 F (some c0) then fop .add .f64 F (some c1) else F := by rw [hV, hF]; rfl
  rw [← hV]
  clear hV
  have HF := Lib.hid hF
  clear hF hu hf
  cases hc : cmpV .lss .f64 F (some c0) with
  | true =>
    rw [hc, if_pos rfl] at hV'
    subst hV'
    have HC := Lib.hid hc
    clear hc
    go_enter Tryz.func80, Tryz.ntmps80
    go_wp2_with (first | (refine wpList_ftoi _ _ _ rfl rfl _ _ _ rfl (by kernel_rfl) (by kernel_rfl) HN.out ?_) | (refine wpList_cmd _ _ _ _ _ rfl rfl rfl _ _ _ rfl rfl (by first | assumption | exact Is.const64 (by decide +kernel)) (by first | assumption | exact Is.const64 (by decide +kernel)) HC.out ?_) | (refine wpList_ar _ _ _ _ _ rfl rfl rfl _ _ _ rfl rfl (by first | assumption | exact Is.const64 (by decide +kernel)) (by first | assumption | exact Is.const64 (by decide +kernel)) ?_; intro r n hr; (try rw [← HF.out] at hr)))
    go_ret
    exact Post64.mk (by assumption)
  | false =>
    rw [hc, if_neg (by decide)] at hV'
    subst hV'
    have HC := Lib.hid hc
    clear hc
    go_enter Tryz.func80, Tryz.ntmps80
    go_wp2_with (first | (refine wpList_ftoi _ _ _ rfl rfl _ _ _ rfl (by kernel_rfl) (by kernel_rfl) HN.out ?_) | (refine wpList_cmd _ _ _ _ _ rfl rfl rfl _ _ _ rfl rfl (by first | assumption | exact Is.const64 (by decide +kernel)) (by first | assumption | exact Is.const64 (by decide +kernel)) HC.out ?_) | (refine wpList_ar _ _ _ _ _ rfl rfl rfl _ _ _ rfl rfl (by first | assumption | exact Is.const64 (by decide +kernel)) (by first | assumption | exact Is.const64 (by decide +kernel)) ?_; intro r n hr; (try rw [← HF.out] at hr)))
    go_ret
    exact Post64.mk (by assumption)

set_option maxHeartbeats 1000000 in
theorem implSine (x : Nat) (h64 : x < 18446744073709551616) (hu : double.units (double.rungOf x) < 2 ^ 1126) (w : World) :
    Calls Tryz.prog 57 #[.float .f64 x] w (Post64 (sineF (fracV x)) w) := by
  have C := fun w => fraction83 x h64 hu w
  obtain ⟨F0, hF0⟩ : ∃ F0, F0 = fracV x := ⟨_, rfl⟩
  rw [← hF0] at C ⊢
  clear hF0
  have C0 := Lib.hid C
  clear C hu
  obtain ⟨t, ht⟩ : ∃ t, cmpV .geq .f64 F0 (some half) = t := ⟨_, rfl⟩
  obtain ⟨F1, h1⟩ : ∃ F1, F1 = if t then fop .sub .f64 F0 (some half) else F0 := ⟨_, rfl⟩
  obtain ⟨g, hg⟩ : ∃ g, cmpV .gtr .f64 F1 (some quarter) = g := ⟨_, rfl⟩
  obtain ⟨F2, h2⟩ : ∃ F2, F2 = if g then fop .sub .f64 (some half) F1 else F1 := ⟨_, rfl⟩
  have hs := sineF_way ht h1 hg h2
  obtain ⟨Z, hZ⟩ : ∃ Z, Z = fop .mul .f64 F2 (some tau) := ⟨_, rfl⟩
  obtain ⟨U, hU⟩ : ∃ U, U = fop .mul .f64 Z Z := ⟨_, rfl⟩
  rw [← hZ, ← hU] at hs
  rw [hs]
  have HT := Lib.hid ht
  have HG := Lib.hid hg
  have H1 := Lib.hid h1
  have H2 := Lib.hid h2
  have HZ := Lib.hid hZ
  have HU := Lib.hid hU
  clear hs ht hg h1 h2 hZ hU
  cases t <;> cases g
  all_goals
    first | have H1p := Lib.hid (H1.out.trans (if_pos rfl)) | obtain rfl := H1.out.trans (if_neg (by decide))
    first | have H2p := Lib.hid (H2.out.trans (if_pos rfl)) | obtain rfl := H2.out.trans (if_neg (by decide))
    clear H1 H2
    simp only [if_true, Bool.false_eq_true, if_false]
    go_enter Tryz.func57, Tryz.ntmps57
    go_wp2_with (first | (go_at_call 80; refine (C0.out _).mono ?_; rintro e w' ⟨r, n, rfl, hr, rfl⟩; (try rw [← H1p.out] at hr); (try rw [← H2p.out] at hr)) | (refine wpList_cmd _ _ _ _ _ rfl rfl rfl _ _ _ rfl rfl (by first | assumption | exact Is.const64 (by decide +kernel)) (by first | assumption | exact Is.const64 (by decide +kernel)) HT.out ?_) | (refine wpList_cmd _ _ _ _ _ rfl rfl rfl _ _ _ rfl rfl (by first | assumption | exact Is.const64 (by decide +kernel)) (by first | assumption | exact Is.const64 (by decide +kernel)) HG.out ?_) | (refine wpList_ar _ _ _ _ _ rfl rfl rfl _ _ _ rfl rfl (by first | assumption | exact Is.const64 (by decide +kernel)) (by first | assumption | exact Is.const64 (by decide +kernel)) ?_; intro r n hr; (try rw [← H1p.out] at hr); (try rw [← H2p.out] at hr); (try rw [← HZ.out] at hr); (try rw [← HU.out] at hr)))
    go_loopg [7, 8] 9 (fun g vp vk wr => ∃ (i pv kv n : Nat), Hid (g + i = 9) ∧ i ≤ 8 ∧ vk = .float .f64 kv ∧ Is .f64 kv (some (kb (8 - i))) ∧ vp = .float .f64 pv ∧ Is .f64 pv (pI U i) ∧ wr = w.drewN n)
    case atStart => exact ⟨0, _, _, _, Lib.hid rfl, by omega, rfl, (by rw [show 8 - 0 = 8 from rfl, kb_8]; exact Is.const64 (by decide +kernel)), rfl, Is.const64 (by decide +kernel), rfl⟩
    case round =>
      obtain ⟨i, pv, kv, n, hgi, hi, rfl, hk, rfl, hp, rfl⟩ := hrel
      by_cases h1 : 1 ≤ 8 - i
      · have HK := Lib.hid ((kb_geV (8 - i) (by omega)).trans (decide_eq_true h1))
        go_wp2_with (first | (refine wpList_cmd _ _ _ _ _ rfl rfl rfl _ _ _ rfl rfl (by first | assumption | exact Is.const64 (by decide +kernel)) (by first | assumption | exact Is.const64 (by decide +kernel)) HK.out ?_) | (refine wpList_ar _ _ _ _ _ rfl rfl rfl _ _ _ rfl rfl (by first | assumption | exact Is.const64 (by decide +kernel)) (by first | assumption | exact Is.const64 (by decide +kernel)) ?_; intro r n hr))
        go_roundg (gk - 1)
        case measure => have := hgi.out; omega
        case rel => exact ⟨i + 1, _, _, _, Lib.hid (by have := hgi.out; omega), by omega, rfl, (by rw [show 8 - (i + 1) = 8 - i - 1 by omega, ← kb_downV (8 - i) h1 (by omega)]; assumption), rfl, (by show Is .f64 _ (fop .sub .f64 (some c1) (fop .quo .f64 (fop .mul .f64 U (pI U i)) (dV (8 - i)))); rw [← kb_divV (8 - i) h1 (by omega)]; assumption), rfl⟩
      · have HK := Lib.hid ((kb_geV (8 - i) (by omega)).trans (decide_eq_false h1))
        obtain rfl : i = 8 := by omega
        clear h1
        go_wp2_with (first | (refine wpList_cmd _ _ _ _ _ rfl rfl rfl _ _ _ rfl rfl (by first | assumption | exact Is.const64 (by decide +kernel)) (by first | assumption | exact Is.const64 (by decide +kernel)) HK.out ?_) | (refine wpList_ar _ _ _ _ _ rfl rfl rfl _ _ _ rfl rfl (by first | assumption | exact Is.const64 (by decide +kernel)) (by first | assumption | exact Is.const64 (by decide +kernel)) ?_; intro r n hr) | (refine wpList_ne _ _ rfl rfl _ rfl (by assumption) ?_; intro r hr))
        go_ret
        exact Post64.mk (by assumption)
end Go.Proofs.YtpfjcfhgckpjmaaGreatDoor

namespace Go.Proofs.YtpfjcfhgckpjmaaGreatDoor
open Go.Fl Go.RowKit Ieee
set_option exponentiation.threshold 3000

theorem nan72 (w : World) : Calls Tryz.prog 55 #[] w (Post64 none w) := by
  have hc2 := fun n w => from103 n w
  go_enter Tryz.func55, Tryz.ntmps55
  go_wp2
  go_ret
  exact Post64.mk0 ⟨by decide +kernel, by decide⟩

theorem narrow105' (b : Nat) (v : Option Nat) (h : Is .f64 b v) (hok : NarrowOk v) (w : World) : Calls Tryz.prog 81 #[.float .f64 b] w (Post32 (narrow v) w) := by
  have h1 := narrow105 b (by rw [h.1]; exact hok) w
  rw [h.1] at h1
  exact h1

theorem isFinite73 (b : Nat) (w : World) : Calls Tryz.prog 54 #[.float .f32 b] w fun e w' => e = .returned (.bool (decide (single.rungOf b < single.infRung))) ∧ ∃ n, w' = w.drewN n := by
  go_enter Tryz.func54, Tryz.ntmps54
  go_wp2_with (refine wpList_farith _ _ _ _ _ rfl rfl rfl _ _ _ rfl rfl ?_; intro r n hr)
  go_ret
  exact ⟨by rw [← show _ = decide (single.rungOf b < single.infRung) from fin_test .f32 b _ hr]; rfl, _, rfl⟩

end Go.Proofs.YtpfjcfhgckpjmaaGreatDoor

namespace Go.Proofs.YtpfjcfhgckpjmaaGreatDoor
open Go.Fl Go.RowKit Ieee
set_option exponentiation.threshold 3000
set_option linter.unusedVariables false
set_option linter.unusedSimpArgs false

theorem sineS_narrow (b : Nat) : NarrowOk (if single.rungOf b < single.infRung then (if bigB (wideN b) then some 0 else sineF (fracV (wideN b))) else none) ∧
    narrow (if single.rungOf b < single.infRung then (if bigB (wideN b) then some 0 else sineF (fracV (wideN b))) else none) = sineS b := by
  unfold sineS
  by_cases hf : single.rungOf b < single.infRung
  · rw [if_pos hf, if_pos hf]
    cases hbig : bigB (wideN b) with
    | true => rw [if_pos rfl, if_pos rfl]; exact ⟨zero_ok, narrow_zero⟩
    | false => rw [if_neg (by decide), if_neg (by decide)]; exact ⟨sineF_ok hbig, rfl⟩
  · rw [if_neg hf, if_neg hf]; exact ⟨narrow_none, rfl⟩

theorem implSineFin (b : Nat) (hb : b < 4294967296) (hf : single.rungOf b < single.infRung) (hbig : bigB (wideN b) = false) (w : World) :
    Calls Tryz.prog 20 #[.float .f32 b] w (Post32 (narrow (sineF (fracV (wideN b)))) w) := by
  have h0 : Is .f32 b (val .f32 b) := Is.of_lt hb
  have hd : decide (single.rungOf b < single.infRung) = true := decide_eq_true hf
  obtain ⟨h1, h2, h3, -, -⟩ := wideN_fin hf
  have hnn := nan_of_fin .f64 h2
  have HB := Lib.hid ((big_absV hnn).trans hbig)
  have hab := absB_is hnn
  have H1 := Lib.hid h1
  have C0 := Lib.hid (implSine _ h3 (not_big hbig))
  have HOK := Lib.hid (sineF_ok hbig)
  have HD := Lib.hid hd
  clear h1 hnn hbig hd hf
  go_enter Tryz.func20, Tryz.ntmps20
  go_wp2_with (first | (go_at_call 54; refine (isFinite73 _ _).mono ?_; rintro e w' ⟨rfl, n, rfl⟩; rw [HD.out]) | (refine wpList_wi _ _ _ rfl rfl _ rfl (by kernel_rfl) (by kernel_rfl) (by assumption) ?_; intro r n hr; rw [H1.out] at hr; obtain ⟨rfl, -⟩ := hr.some; clear hr) | (go_at_call 53; refine (abs _ h3 _).mono ?_; rintro e w' ⟨rfl, rfl⟩) | (refine wpList_cmd _ _ _ _ _ rfl rfl rfl _ _ _ rfl rfl (by first | exact hab | assumption | exact Is.const64 (by decide +kernel)) (by first | assumption | exact Is.const64 (by decide +kernel)) HB.out ?_) | (go_at_call 57; refine (C0.out _).mono ?_; rintro e w' ⟨r, n, rfl, hr, rfl⟩) | (refine wpList_na _ _ _ rfl rfl _ rfl (by kernel_rfl) (by kernel_rfl) (by assumption) HOK.out ?_; intro r n hr))
  go_ret
  exact Post32.mk (by assumption)

theorem implSineBig (b : Nat) (hb : b < 4294967296) (hf : single.rungOf b < single.infRung) (hbig : bigB (wideN b) = true) (w : World) :
    Calls Tryz.prog 20 #[.float .f32 b] w (Post32 (some 0) w) := by
  have h0 : Is .f32 b (val .f32 b) := Is.of_lt hb
  have hd : decide (single.rungOf b < single.infRung) = true := decide_eq_true hf
  obtain ⟨h1, h2, h3, -, -⟩ := wideN_fin hf
  have hnn := nan_of_fin .f64 h2
  have HB := Lib.hid ((big_absV hnn).trans hbig)
  have hab := absB_is hnn
  have H1 := Lib.hid h1
  have HD := Lib.hid hd
  clear h1 hnn hbig hd hf
  go_enter Tryz.func20, Tryz.ntmps20
  go_wp2_with (first | (go_at_call 54; refine (isFinite73 _ _).mono ?_; rintro e w' ⟨rfl, n, rfl⟩; rw [HD.out]) | (refine wpList_wi _ _ _ rfl rfl _ rfl (by kernel_rfl) (by kernel_rfl) (by assumption) ?_; intro r n hr; rw [H1.out] at hr; obtain ⟨rfl, -⟩ := hr.some; clear hr) | (go_at_call 53; refine (abs _ h3 _).mono ?_; rintro e w' ⟨rfl, rfl⟩) | (refine wpList_cmd _ _ _ _ _ rfl rfl rfl _ _ _ rfl rfl (by first | exact hab | assumption | exact Is.const64 (by decide +kernel)) (by first | assumption | exact Is.const64 (by decide +kernel)) HB.out ?_))
  go_ret
  exact Post32.mk Is.zero32

theorem implSineNot (b : Nat) (hf : ¬ single.rungOf b < single.infRung) (w : World) :
    Calls Tryz.prog 20 #[.float .f32 b] w (Post32 none w) := by
  have HD := Lib.hid (decide_eq_false hf)
  clear hf
  go_enter Tryz.func20, Tryz.ntmps20
  go_wp2_with (first | (go_at_call 54; refine (isFinite73 _ _).mono ?_; rintro e w' ⟨rfl, n, rfl⟩; rw [HD.out]) | (go_at_call 55; refine (nan72 _).mono ?_; rintro e w' ⟨r, n, rfl, hr, rfl⟩) | (refine wpList_na _ _ _ rfl rfl _ rfl (by kernel_rfl) (by kernel_rfl) (by assumption) narrow_none ?_; intro r n hr))
  go_ret
  exact Post32.mk (by assumption)

theorem implSine35 (b : Nat) (hb : b < 4294967296) (w : World) : Calls Tryz.prog 20 #[.float .f32 b] w (Post32 (sineS b) w) := by
  unfold sineS
  by_cases hf : single.rungOf b < single.infRung
  · rw [if_pos hf]
    cases hbig : bigB (wideN b) with
    | true => rw [if_pos rfl]; exact implSineBig b hb hf hbig w
    | false => rw [if_neg (by decide)]; exact implSineFin b hb hf hbig w
  · rw [if_neg hf]; exact implSineNot b hf w

end Go.Proofs.YtpfjcfhgckpjmaaGreatDoor

namespace Go.Proofs.YtpfjcfhgckpjmaaGreatDoor
open Go.Fl Go.RowKit Ieee
set_option exponentiation.threshold 3000
set_option linter.unusedVariables false
set_option linter.unusedSimpArgs false

theorem sqrt79' (x : Nat) (v : Option Nat) (h : Is .f64 x v) (w : World) : Calls Tryz.prog 56 #[.float .f64 x] w (Post64 (fsqrt v) w) := by
  have h1 := sqrt79 x w
  rw [h.1] at h1
  exact h1

set_option maxRecDepth 100000 in
set_option maxHeartbeats 4000000 in
theorem implAngle (a0 a1 : Nat) (hb0 : a0 < 4294967296) (hb1 : a1 < 4294967296) (hf0 : single.rungOf a0 < single.infRung) (hf1 : single.rungOf a1 < single.infRung) (hnz : single.rungOf a1 ≠ 0 ∨ single.rungOf a0 ≠ 0) (w : World) :
    Calls Tryz.prog 17 #[.float .f32 a0, .float .f32 a1] w (Post32 (narrow (angF (wideN a0) (wideN a1))) w) := by
  have hy0 : Is .f32 a0 (some a0) := Is.of_lt hb0 |>.trans' (val_num (k := .f32) (nan_of_fin .f32 hf0))
  have hx0 : Is .f32 a1 (some a1) := Is.of_lt hb1 |>.trans' (val_num (k := .f32) (nan_of_fin .f32 hf1))
  obtain ⟨hw0, hY, hy64, hyn, -⟩ := wideN_fin hf0
  obtain ⟨hw1, hX, hx64, hxn, -⟩ := wideN_fin hf1
  have hcy := (wide_signs (nan_of_fin .f32 hf0)).2.2.1
  have hcx := (wide_signs (nan_of_fin .f32 hf1)).2.2.1
  have hay : Is .f64 (wideN a0 % 9223372036854775808) (some (absB (wideN a0))) := absB_is (nan_of_fin .f64 hY)
  have hax : Is .f64 (wideN a1 % 9223372036854775808) (some (absB (wideN a1))) := absB_is (nan_of_fin .f64 hX)
  have hyw : Is .f64 (wideN a0) (some (wideN a0)) := Is.fin hy64 hY
  have hxw : Is .f64 (wideN a1) (some (wideN a1)) := Is.fin hx64 hX
  have HOK := Lib.hid (narrowOk_of_bd (bd_angF hY hX) (by omega))
  obtain ⟨V, hV⟩ : ∃ V, V = angF (wideN a0) (wideN a1) := ⟨_, rfl⟩
  obtain ⟨T0, hT0⟩ : ∃ T0, T0 = t0V (wideN a0) (wideN a1) := ⟨_, rfl⟩
  obtain ⟨ov, hov⟩ : ∃ ov, overB (wideN a0) (wideN a1) = ov := ⟨_, rfl⟩
  obtain ⟨xn, hxneg⟩ : ∃ xn, cmpV .lss .f64 (some (wideN a1)) (some c0) = xn := ⟨_, rfl⟩
  obtain ⟨yn, hyneg⟩ : ∃ yn, cmpV .lss .f64 (some (wideN a0)) (some c0) = yn := ⟨_, rfl⟩
  have HV : Hid (V = turn3 yn (turn2 xn (turn1 ov (ang0 (tI T0 3))))) := by
    rw [hV, hT0, ← hov, ← hxneg, ← hyneg]; exact rfl
  have hT0' : T0 = if ov then fop .quo .f64 (some (absB (wideN a1))) (some (absB (wideN a0))) else fop .quo .f64 (some (absB (wideN a0))) (some (absB (wideN a1))) := by
    rw [hT0, ← hov]; exact rfl
  have HO : Hid (cmpV .gtr .f64 (some (absB (wideN a0))) (some (absB (wideN a1))) = ov) := hov
  have HX : Hid (cmpV .lss .f32 (some a1) (some 0) = xn) := by
    rw [← hxneg]; exact (lss_wide hf1).symm
  have HY : Hid (cmpV .lss .f32 (some a0) (some 0) = yn) := by
    rw [← hyneg]; exact (lss_wide hf0).symm
  have HD0 := Lib.hid (decide_eq_true hf0)
  have HD1 := Lib.hid (decide_eq_true hf1)
  have HW0 : Hid (widen (val .f32 a0) = some (wideN a0)) := hw0
  have HW1 : Hid (widen (val .f32 a1) = some (wideN a1)) := hw1
  rw [val_num (k := .f32) (nan_of_fin .f32 hf0)] at HW0
  rw [val_num (k := .f32) (nan_of_fin .f32 hf1)] at HW1
  rw [← hV] at HOK ⊢
  have e1 := eqlV0 .f32 a1
  have e0 := eqlV0 .f32 a0
  obtain ⟨z1, hz1⟩ : ∃ z1, decide (FloatKind.f32.format.rungOf a1 = 0) = z1 := ⟨_, rfl⟩
  obtain ⟨z0, hz0⟩ : ∃ z0, decide (FloatKind.f32.format.rungOf a0 = 0) = z0 := ⟨_, rfl⟩
  have hzz : z1 = false ∨ z0 = false := by
    rcases hnz with h | h
    · left; rw [← hz1]; exact decide_eq_false h
    · right; rw [← hz0]; exact decide_eq_false h
  have Z1 := Lib.hid (e1.trans hz1)
  have Z0 := Lib.hid (e0.trans hz0)
  have HTT := Lib.hid hT0'
  clear hw0 hw1 hY hX hyn hxn hcy hcx hV hT0 hov hxneg hyneg e1 e0 hz1 hz0 hf0 hf1 hnz hT0'
  have hz2 : z1 = true → z0 = false := by
    rintro rfl
    rcases hzz with h | h
    · cases h
    · exact h
  clear hzz
  cases z1
  all_goals
    (try obtain rfl := hz2 rfl)
    clear hz2
    cases ov
  all_goals
    have HT0 := Lib.hid (HTT.out.trans rfl)
    simp only [if_true, Bool.false_eq_true, if_false] at HT0
    clear HTT

    go_enter Tryz.func17, Tryz.ntmps17
    go_wp2_with (first | (go_at_call 54; refine (isFinite73 _ _).mono ?_; rintro e w' ⟨rfl, n, rfl⟩; (first | rw [HD0.out] | rw [HD1.out])) | (refine wpList_cmd _ _ _ _ _ rfl rfl rfl _ _ _ rfl rfl (by first | with_reducible assumption | exact Is.const64 (by decide +kernel) | exact Is.const32 (by decide +kernel)) (by first | with_reducible assumption | exact Is.const64 (by decide +kernel) | exact Is.const32 (by decide +kernel)) Z1.out ?_) | (refine wpList_cmd _ _ _ _ _ rfl rfl rfl _ _ _ rfl rfl (by first | with_reducible assumption | exact Is.const64 (by decide +kernel) | exact Is.const32 (by decide +kernel)) (by first | with_reducible assumption | exact Is.const64 (by decide +kernel) | exact Is.const32 (by decide +kernel)) Z0.out ?_) | (refine wpList_wi _ _ _ rfl rfl _ rfl (by kernel_rfl) (by kernel_rfl) (by assumption) ?_; intro r n hr; (first | rw [HW0.out] at hr | rw [HW1.out] at hr); obtain ⟨rfl, -⟩ := hr.some; clear hr) | (go_at_call 53; refine (abs _ (by first | exact hy64 | exact hx64) _).mono ?_; rintro e w' ⟨rfl, rfl⟩) | (refine wpList_cmd _ _ _ _ _ rfl rfl rfl _ _ _ rfl rfl (by first | with_reducible assumption | exact Is.const64 (by decide +kernel) | exact Is.const32 (by decide +kernel)) (by first | with_reducible assumption | exact Is.const64 (by decide +kernel) | exact Is.const32 (by decide +kernel)) HO.out ?_) | (refine wpList_ar _ _ _ _ _ rfl rfl rfl _ _ _ rfl rfl (by first | with_reducible assumption | exact Is.const64 (by decide +kernel) | exact Is.const32 (by decide +kernel)) (by first | with_reducible assumption | exact Is.const64 (by decide +kernel) | exact Is.const32 (by decide +kernel)) ?_; intro r n hr; (try rw [← HT0.out] at hr)))
    go_loopg [7, 43] 4 (fun g vt vc wr => ∃ (i tv n : Nat), Hid (g + i = 4) ∧ i ≤ 3 ∧ vc = .int .i64 (i : Int) ∧ vt = .float .f64 tv ∧ Is .f64 tv (tI T0 i) ∧ wr = w.drewN n)
    case atStart => exact ⟨0, _, _, Lib.hid rfl, by omega, rfl, rfl, (by show Is .f64 _ T0; assumption), rfl⟩
    case round =>
      obtain ⟨i, tv, n, hgi, hi, rfl, rfl, ht, rfl⟩ := hrel
      by_cases h3 : (i : Int) < 3
      · go_wp2_with (first | (refine wpList_ar _ _ _ _ _ rfl rfl rfl _ _ _ rfl rfl (by first | with_reducible assumption | exact Is.const64 (by decide +kernel) | exact Is.const32 (by decide +kernel)) (by first | with_reducible assumption | exact Is.const64 (by decide +kernel) | exact Is.const32 (by decide +kernel)) ?_; intro r n hr) | (go_at_call 56; refine (sqrt79' _ _ (by with_reducible assumption) _).mono ?_; rintro e w' ⟨r, n, rfl, hr, rfl⟩))
        go_roundg (gk - 1)
        case measure => have := hgi.out; omega
        case rel => exact ⟨i + 1, _, _, Lib.hid (by have := hgi.out; omega), by omega, (by congr 1), rfl, (by show Is .f64 _ (Go.Fl.stepT (tI T0 i)); unfold Go.Fl.stepT; assumption), rfl⟩
      · obtain rfl : i = 3 := by omega
        clear h3
        obtain ⟨T, hT⟩ : ∃ T, T = tI T0 3 := ⟨_, rfl⟩
        obtain ⟨U, hU⟩ : ∃ U, U = fop .mul .f64 T T := ⟨_, rfl⟩
        obtain ⟨A, hA⟩ : ∃ A, A = fop .quo .f64 (fop .mul .f64 (some c8) (fop .mul .f64 T (srI .sub 15 U 8))) (some tau) := ⟨_, rfl⟩
        have h2 : ang0 (tI T0 3) = A := by rw [hA, hU, hT]; rfl
        have hv2 := HV.out
        rw [h2] at hv2
        have HVA := Lib.hid hv2
        clear h2 hv2
        rw [← hT] at ht
        have HU := Lib.hid hU
        have HA := Lib.hid hA
        clear hT hU hA
        go_wp2_with (first | (refine wpList_ar _ _ _ _ _ rfl rfl rfl _ _ _ rfl rfl (by first | with_reducible assumption | exact Is.const64 (by decide +kernel) | exact Is.const32 (by decide +kernel)) (by first | with_reducible assumption | exact Is.const64 (by decide +kernel) | exact Is.const32 (by decide +kernel)) ?_; intro r n hr; (try rw [← HU.out] at hr)))
        go_loopg [9, 10] 10 (fun g vp vk wr => ∃ (i pv n : Nat), Hid (g + i = 10) ∧ i ≤ 8 ∧ (∃ kv, vk = .float .f64 kv ∧ Is .f64 kv (some (ko 15 i))) ∧ vp = .float .f64 pv ∧ Is .f64 pv (srI .sub 15 U i) ∧ wr = w.drewN n)
        case atStart => exact ⟨0, _, _, Lib.hid rfl, by omega, ⟨_, rfl, by rw [show ko 15 0 = 4624633867356078080 by decide +kernel]; exact Is.const64 (by decide +kernel)⟩, rfl, Is.const64 (by decide +kernel), rfl⟩
        case round =>
          obtain ⟨i, pv, n, hgi, hi, ⟨kv, rfl, hk⟩, rfl, hp, rfl⟩ := hrel
          by_cases h1 : i ≤ 7
          · have HK := Lib.hid ((ko15_ge i (by omega)).trans (decide_eq_true h1))
            skip
            go_wp2_with (first | (refine wpList_cmd _ _ _ _ _ rfl rfl rfl _ _ _ rfl rfl (by first | with_reducible assumption | exact Is.const64 (by decide +kernel) | exact Is.const32 (by decide +kernel)) (by first | with_reducible assumption | exact Is.const64 (by decide +kernel) | exact Is.const32 (by decide +kernel)) HK.out ?_) | (refine wpList_ar _ _ _ _ _ rfl rfl rfl _ _ _ rfl rfl (by first | with_reducible assumption | exact Is.const64 (by decide +kernel) | exact Is.const32 (by decide +kernel)) (by first | with_reducible assumption | exact Is.const64 (by decide +kernel) | exact Is.const32 (by decide +kernel)) ?_; intro r n hr))
            go_roundg (gk - 1)
            case measure => have := hgi.out; omega
            case rel => exact ⟨i + 1, _, _, Lib.hid (by have := hgi.out; omega), by omega, ⟨_, rfl, by rw [← ko15_dn i (by omega)]; assumption⟩, rfl, (by show Is .f64 _ (fop .sub .f64 (fop .quo .f64 (some c1) (some (kb (15 - 2 * i)))) (fop .mul .f64 U (srI .sub 15 U i))); rw [← ko15_kb i (by omega)]; assumption), rfl⟩
          · have HK := Lib.hid ((ko15_ge i (by omega)).trans (decide_eq_false h1))
            obtain rfl : i = 8 := by omega
            clear h1
            cases xn <;> cases yn
            all_goals
              have HW := Lib.hid (HVA.out.trans rfl)
              simp only [turn1, turn2, turn3, if_true, Bool.false_eq_true, if_false] at HW
              clear HVA
              go_wp2_with (first | (refine wpList_cmd _ _ _ _ _ rfl rfl rfl _ _ _ rfl rfl (by first | with_reducible assumption | exact Is.const64 (by decide +kernel) | exact Is.const32 (by decide +kernel)) (by first | with_reducible assumption | exact Is.const64 (by decide +kernel) | exact Is.const32 (by decide +kernel)) HK.out ?_) | (refine wpList_cmd _ _ _ _ _ rfl rfl rfl _ _ _ rfl rfl (by first | with_reducible assumption | exact Is.const64 (by decide +kernel) | exact Is.const32 (by decide +kernel)) (by first | with_reducible assumption | exact Is.const64 (by decide +kernel) | exact Is.const32 (by decide +kernel)) HO.out ?_) | (refine wpList_cmd _ _ _ _ _ rfl rfl rfl _ _ _ rfl rfl (by first | with_reducible assumption | exact Is.const64 (by decide +kernel) | exact Is.const32 (by decide +kernel)) (by first | with_reducible assumption | exact Is.const64 (by decide +kernel) | exact Is.const32 (by decide +kernel)) HX.out ?_) | (refine wpList_cmd _ _ _ _ _ rfl rfl rfl _ _ _ rfl rfl (by first | with_reducible assumption | exact Is.const64 (by decide +kernel) | exact Is.const32 (by decide +kernel)) (by first | with_reducible assumption | exact Is.const64 (by decide +kernel) | exact Is.const32 (by decide +kernel)) HY.out ?_) | (refine wpList_ar _ _ _ _ _ rfl rfl rfl _ _ _ rfl rfl (by first | with_reducible assumption | exact Is.const64 (by decide +kernel) | exact Is.const32 (by decide +kernel)) (by first | with_reducible assumption | exact Is.const64 (by decide +kernel) | exact Is.const32 (by decide +kernel)) ?_; intro r n hr; (try rw [← HA.out] at hr); (try rw [← HW.out] at hr)) | (refine wpList_ne _ _ rfl rfl _ rfl (by assumption) ?_; intro r hr; (try rw [← HA.out] at hr); (try rw [← HW.out] at hr)) | (refine wpList_na _ _ _ rfl rfl _ rfl (by kernel_rfl) (by kernel_rfl) (by assumption) HOK.out ?_; intro r n hr))
              go_ret
              exact Post32.mk (by assumption)

end Go.Proofs.YtpfjcfhgckpjmaaGreatDoor

namespace Go.Proofs.YtpfjcfhgckpjmaaGreatDoor
open Go.Fl Go.RowKit Ieee
set_option exponentiation.threshold 3000
set_option linter.unusedVariables false
set_option linter.unusedSimpArgs false

theorem implAngleZero (a0 a1 : Nat) (hb0 : a0 < 4294967296) (hb1 : a1 < 4294967296) (hf0 : single.rungOf a0 < single.infRung) (hf1 : single.rungOf a1 < single.infRung) (h0 : single.rungOf a0 = 0) (h1 : single.rungOf a1 = 0) (w : World) :
    Calls Tryz.prog 17 #[.float .f32 a0, .float .f32 a1] w (Post32 (some 0) w) := by
  have hy0 : Is .f32 a0 (some a0) := Is.of_lt hb0 |>.trans' (val_num (k := .f32) (nan_of_fin .f32 hf0))
  have hx0 : Is .f32 a1 (some a1) := Is.of_lt hb1 |>.trans' (val_num (k := .f32) (nan_of_fin .f32 hf1))
  have Z1 : Hid (cmpV .eql .f32 (some a1) (some 0) = true) := by rw [eqlV0]; exact decide_eq_true h1
  have Z0 : Hid (cmpV .eql .f32 (some a0) (some 0) = true) := by rw [eqlV0]; exact decide_eq_true h0
  have HD0 := Lib.hid (decide_eq_true hf0)
  have HD1 := Lib.hid (decide_eq_true hf1)
  clear hf0 hf1 h0 h1
  go_enter Tryz.func17, Tryz.ntmps17
  go_wp2_with (first | (go_at_call 54; refine (isFinite73 _ _).mono ?_; rintro e w' ⟨rfl, n, rfl⟩; (first | rw [HD0.out] | rw [HD1.out])) | (refine wpList_cmd _ _ _ _ _ rfl rfl rfl _ _ _ rfl rfl (by first | with_reducible assumption | exact Is.const64 (by decide +kernel) | exact Is.const32 (by decide +kernel)) (by first | with_reducible assumption | exact Is.const64 (by decide +kernel) | exact Is.const32 (by decide +kernel)) Z1.out ?_) | (refine wpList_cmd _ _ _ _ _ rfl rfl rfl _ _ _ rfl rfl (by first | with_reducible assumption | exact Is.const64 (by decide +kernel) | exact Is.const32 (by decide +kernel)) (by first | with_reducible assumption | exact Is.const64 (by decide +kernel) | exact Is.const32 (by decide +kernel)) Z0.out ?_))
  go_ret
  exact Post32.mk Is.zero32

theorem implAngleNot (a0 a1 : Nat) (h : ¬ (single.rungOf a0 < single.infRung ∧ single.rungOf a1 < single.infRung)) (w : World) :
    Calls Tryz.prog 17 #[.float .f32 a0, .float .f32 a1] w (Post32 none w) := by
  by_cases h1 : single.rungOf a1 < single.infRung
  · have HD1 := Lib.hid (decide_eq_true h1)
    have HD0 := Lib.hid (decide_eq_false (fun h0 : single.rungOf a0 < single.infRung => h ⟨h0, h1⟩))
    clear h h1
    go_enter Tryz.func17, Tryz.ntmps17
    go_wp2_with (first | (go_at_call 54; refine (isFinite73 _ _).mono ?_; rintro e w' ⟨rfl, n, rfl⟩; (first | rw [HD1.out] | rw [HD0.out])) | (go_at_call 55; refine (nan72 _).mono ?_; rintro e w' ⟨r, n, rfl, hr, rfl⟩) | (refine wpList_na _ _ _ rfl rfl _ rfl (by kernel_rfl) (by kernel_rfl) (by assumption) narrow_none ?_; intro r n hr))
    go_ret
    exact Post32.mk (by assumption)
  · have HD1 := Lib.hid (decide_eq_false h1)
    clear h h1
    go_enter Tryz.func17, Tryz.ntmps17
    go_wp2_with (first | (go_at_call 54; refine (isFinite73 _ _).mono ?_; rintro e w' ⟨rfl, n, rfl⟩; rw [HD1.out]) | (go_at_call 55; refine (nan72 _).mono ?_; rintro e w' ⟨r, n, rfl, hr, rfl⟩) | (refine wpList_na _ _ _ rfl rfl _ rfl (by kernel_rfl) (by kernel_rfl) (by assumption) narrow_none ?_; intro r n hr))
    go_ret
    exact Post32.mk (by assumption)

/-- The angle of a point with single coordinates, as a double; as a single. -/
def angW (a0 a1 : Nat) : Option Nat := if single.rungOf a0 < single.infRung ∧ single.rungOf a1 < single.infRung then (if single.rungOf a0 = 0 ∧ single.rungOf a1 = 0 then some 0 else angF (wideN a0) (wideN a1)) else none
def angS (a0 a1 : Nat) : Option Nat := narrow (angW a0 a1)

theorem angW_ok (a0 a1 : Nat) : NarrowOk (angW a0 a1) := by
  unfold angW
  split
  · rename_i h
    split
    · exact zero_ok
    · obtain ⟨-, hY, -, -, -⟩ := wideN_fin h.1
      obtain ⟨-, hX, -, -, -⟩ := wideN_fin h.2
      exact narrowOk_of_bd (bd_angF hY hX) (by omega)
  · exact narrow_none

theorem implAngle45 (a0 a1 : Nat) (hb0 : a0 < 4294967296) (hb1 : a1 < 4294967296) (w : World) : Calls Tryz.prog 17 #[.float .f32 a0, .float .f32 a1] w (Post32 (angS a0 a1) w) := by
  unfold angS angW
  by_cases hf : single.rungOf a0 < single.infRung ∧ single.rungOf a1 < single.infRung
  · rw [if_pos hf]
    by_cases hz : single.rungOf a0 = 0 ∧ single.rungOf a1 = 0
    · rw [if_pos hz, narrow_zero]; exact implAngleZero a0 a1 hb0 hb1 hf.1 hf.2 hz.1 hz.2 w
    · rw [if_neg hz]; exact implAngle a0 a1 hb0 hb1 hf.1 hf.2 (by omega) w
  · rw [if_neg hf]; exact implAngleNot a0 a1 hf w

end Go.Proofs.YtpfjcfhgckpjmaaGreatDoor
set_option linter.unusedVariables false
set_option linter.unusedSimpArgs false
namespace Go.Proofs.YtpfjcfhgckpjmaaGreatDoor.Lw
open Go.Fl Ieee Go.Proofs.YtpfjcfhgckpjmaaGreatDoor
theorem single_cases {b : Nat} (hb : b < 4294967296) : single.nan b = true ∨ single.rungOf b < single.infRung ∨ b = 2139095040 ∨ b = 4286578688 := by
  by_cases hn : single.nan b = true
  · exact .inl hn
  · have hn' : single.nan b = false := by simpa using hn
    by_cases hf : single.rungOf b < single.infRung
    · exact .inr (.inl hf)
    · have hi : single.rungOf b = single.infRung := by
        rw [single.nan_iff (by decide)] at hn'
        have : single.rungOf b ≤ single.infRung := by simpa using hn'
        omega
      have hw := single.word_of (b := b) hb
      rw [hi] at hw
      cases h : single.isNeg b with
      | false => rw [h] at hw; exact .inr (.inr (.inl (hw.symm.trans (by decide +kernel))))
      | true => rw [h] at hw; exact .inr (.inr (.inr (hw.symm.trans (by decide +kernel))))
theorem fin_num {b : Nat} (hf : single.rungOf b < single.infRung) : single.nan b = false := by
  rw [single.nan_iff (by decide)]
  simp
  omega
/-- A single widened and narrowed is itself. -/
theorem narrow_wide {b : Nat} (hb : b < 4294967296) : narrow (widen (val .f32 b)) = val .f32 b ∧ NarrowOk (widen (val .f32 b)) := by
  rcases single_cases hb with hn | hf | rfl | rfl
  · rw [val_nan (k := .f32) hn]
    exact ⟨rfl, narrow_none⟩
  · rw [val_num (k := .f32) (fin_num hf)]
    obtain ⟨rd, h1, h2, h3⟩ := widen_word hf
    have hlt := double.infRung_lt
    have hr : double.rungOf (double.word (single.isNeg b) rd) = rd := double.rungOf_word _ (by omega)
    have hs : double.isNeg (double.word (single.isNeg b) rd) = single.isNeg b := double.isNeg_word _ (by omega)
    have e1 : (double.leastPlace - single.leastPlace).toNat = 0 := by decide
    have e2 : (single.leastPlace - double.leastPlace).toNat = 925 := by decide
    have hw : single.write (double.read (double.word (single.isNeg b) rd)) = b := by
      rw [double.rewrite_exact single (rg := single.rungOf b) (by rw [hr]; exact h1) (Nat.le_of_lt hf) (by rw [hr, h2, e1, e2, Nat.pow_zero, Nat.mul_one]), hs]
      exact single.word_of hb
    have hv : widen (some b) = some (double.word (single.isNeg b) rd) := by unfold widen; rw [Option.map_some, h3]
    rw [hv]
    refine ⟨by unfold narrow; rw [Option.map_some, hw], ?_⟩
    intro c hc _
    cases hc
    rw [hw]
    obtain ⟨m, e, hr, -⟩ := single.read_fin hf
    rw [hr]
    rfl
  · refine ⟨by decide +kernel, ?_⟩
    intro c hc hlt
    have : c = 9218868437227405312 := by
      have e : widen (val .f32 2139095040) = some 9218868437227405312 := by decide +kernel
      rw [e] at hc
      cases hc; rfl
    subst this
    exact absurd hlt (by decide +kernel)
  · refine ⟨by decide +kernel, ?_⟩
    intro c hc hlt
    have : c = 18442240474082181120 := by
      have e : widen (val .f32 4286578688) = some 18442240474082181120 := by decide +kernel
      rw [e] at hc
      cases hc; rfl
    subst this
    exact absurd hlt (by decide +kernel)
theorem bitsV_range (b : Nat) (h : b < 4294967296) : 0 ≤ bitsV (val .f32 b) ∧ bitsV (val .f32 b) ≤ 4294967295 := by
  cases hn : single.nan b with
  | true => rw [val_nan (k := .f32) hn]; exact ⟨by decide, by decide⟩
  | false => rw [val_num (k := .f32) hn]; show (0 : Int) ≤ (b : Int) ∧ (b : Int) ≤ 4294967295; omega
/-- Bits lead back to the number. -/
theorem val_back (b : Nat) : bitsV (val .f32 (bitsV (val .f32 b)).toNat) = bitsV (val .f32 b) := by
  cases hn : single.nan b with
  | true => rw [val_nan (k := .f32) hn]; decide +kernel
  | false =>
    rw [val_num (k := .f32) hn]
    show bitsV (val .f32 ((b : Int)).toNat) = (b : Int)
    rw [Int.toNat_natCast, val_num (k := .f32) hn]
    rfl
theorem zero_cases (b : Nat) : signZero b = 0 ∨ signZero b = 2147483648 := by unfold signZero; split <;> simp
theorem sub_zero (b : Nat) : subB (signZero b) = false := by
  rcases zero_cases b with h | h <;> rw [h] <;> decide +kernel
theorem order_zero {b : Nat} (h : b = signZero b) : (FloatKind.f32.format.order b 0 != some .eq) = false := by
  rcases zero_cases b with e | e <;> rw [e] at h <;> subst h <;> decide +kernel
theorem val_some {b c : Nat} (h : val .f32 b = some c) : b = c := by
  cases hn : single.nan b with
  | true => rw [val_nan (k := .f32) hn] at h; cases h
  | false => rw [val_num (k := .f32) hn] at h; cases h; rfl
theorem val_none {b : Nat} (h : val .f32 b = none) : single.nan b = true := by
  cases hn : single.nan b with
  | true => rfl
  | false => rw [val_num (k := .f32) hn] at h; cases h
/-- A flushed number is not subnormal. -/
theorem flush_no {b z : Nat} (hz : val .f32 z = flushV b) : subB z = false := by
  unfold flushV at hz
  cases hl : lowB b with
  | true =>
    rw [hl, if_pos rfl] at hz
    rw [val_some hz]
    exact sub_zero b
  | false =>
    rw [hl, if_neg (by decide)] at hz
    have : lowB z = false := by
      cases hn : single.nan b with
      | true =>
        rw [val_nan (k := .f32) hn] at hz
        unfold lowB
        rw [val_none hz]
        rfl
      | false =>
        rw [val_num (k := .f32) hn] at hz
        rw [val_some hz]
        exact hl
    unfold subB
    rw [this, Bool.and_false]
/-- A number is subnormal or else the same as its flushed one. -/
theorem flush_same {b z : Nat} (hb : b < 4294967296) (hz : val .f32 z = flushV b) : (subB b == decide (bitsV (val .f32 b) = bitsV (val .f32 z))) = false := by
  rw [hz]
  cases ho : (FloatKind.f32.format.order b 0 != some .eq) with
  | false =>
    rw [flush_zero hb ho]
    unfold subB
    rw [ho]
    simp
  | true =>
    unfold subB
    rw [ho, Bool.true_and]
    cases hl : lowB b with
    | false =>
      unfold flushV
      rw [hl]
      simp
    | true =>
      have hn : single.nan b = false := by
        unfold lowB at hl
        cases hn : single.nan b with
        | true => rw [hn] at hl; cases hl
        | false => rfl
      unfold flushV
      rw [hl, if_pos rfl, val_num (k := .f32) hn]
      have : decide (bitsV (some b) = bitsV (some (signZero b))) = false := by
        refine decide_eq_false fun e => ?_
        have e' : b = signZero b := by have : (b : Int) = (signZero b : Nat) := e; omega
        rw [order_zero e'] at ho
        cases ho
      rw [this]
      rfl
theorem sine_quarter : sineS 1048576000 = some 1065353216 := by decide +kernel
end Go.Proofs.YtpfjcfhgckpjmaaGreatDoor.Lw
set_option linter.unusedVariables false
set_option linter.unusedSimpArgs false
set_option linter.unusedVariables false
set_option linter.unusedSimpArgs false
namespace Go
end Go

namespace Go.Proofs.YtpfjcfhgckpjmaaGreatDoor.Cw
open Go.Fl Go.RowKit Ieee Go.Proofs.YtpfjcfhgckpjmaaGreatDoor
def PostC (p q : Option Nat) (w : World) (e : Ending) (w' : World) : Prop := ∃ r s n, e = .returned (.complex .f32 r s) ∧ Is .f32 r p ∧ Is .f32 s q ∧ w' = w.drewN n
theorem PostC.mk {p q : Option Nat} {w : World} {r s n : Nat} (hr : Is .f32 r p) (hs : Is .f32 s q) : PostC p q w (.returned (.complex .f32 r s)) (w.drewN n) := ⟨r, s, n, rfl, hr, hs, rfl⟩
theorem ret_int {k : IntKind} {a b : Int} (h : a = b) : Ending.returned (.int k a) = .returned (.int k b) := by rw [h]
def PostP (u v : Option Nat) (w : World) (e : Ending) (w' : World) : Prop := ∃ r s n, e = .returned (.tuple #[.float .f64 r, .float .f64 s]) ∧ Is .f64 r u ∧ Is .f64 s v ∧ w' = w.drewN n
theorem PostP.mk {u v : Option Nat} {w : World} {r s n : Nat} (h1 : Is .f64 r u) (h2 : Is .f64 s v) : PostP u v w (.returned (.tuple #[.float .f64 r, .float .f64 s])) (w.drewN n) := ⟨r, s, n, rfl, h1, h2, rfl⟩
theorem parts99 (p q : Nat) (u v : Option Nat) (hp : Is .f32 p u) (hq : Is .f32 q v) (w : World) : Calls Tryz.prog 58 #[.complex .f32 p q] w (PostP (widen u) (widen v) w) := by
  go_enter Tryz.func58, Tryz.ntmps58
  go_wp2_with (refine wpList_wi _ _ _ rfl rfl _ rfl (by kernel_rfl) (by kernel_rfl) (by assumption) ?_; intro r n hr)
  go_ret2
  exact PostP.mk (by assumption) (by assumption)
theorem times100 (a b c d : Nat) (A B C D : Option Nat) (ha : Is .f64 a A) (hb : Is .f64 b B) (hc : Is .f64 c C) (hd : Is .f64 d D) (w : World) :
    Calls Tryz.prog 59 #[.float .f64 a, .float .f64 b, .float .f64 c, .float .f64 d] w (PostP (fop .sub .f64 (fop .mul .f64 A C) (fop .mul .f64 B D)) (fop .add .f64 (fop .mul .f64 A D) (fop .mul .f64 B C)) w) := by
  go_enter Tryz.func59, Tryz.ntmps59
  go_wp2_with (refine wpList_ar _ _ _ _ _ rfl rfl rfl _ _ _ rfl rfl (by first | with_reducible assumption | exact Is.const64 (by decide +kernel) | exact Is.const32 (by decide +kernel)) (by first | with_reducible assumption | exact Is.const64 (by decide +kernel) | exact Is.const32 (by decide +kernel)) ?_; intro r n hr)
  go_ret2
  exact PostP.mk (by assumption) (by assumption)
theorem power97 (p q : Nat) (u v : Option Nat) (hp : Is .f32 p u) (hq : Is .f32 q v) (w : World) : Calls Tryz.prog 60 #[.complex .f32 p q] w (Post64 (fop .add .f64 (fop .mul .f64 (widen u) (widen u)) (fop .mul .f64 (widen v) (widen v))) w) := by
  go_enter Tryz.func60, Tryz.ntmps60
  go_wp2_with (first | (go_at_call 58; ((with_reducible refine (parts99 _ _ _ _ (by with_reducible assumption) (by with_reducible assumption) _).mono ?_); rintro e w' ⟨r, s, n, rfl, hr, hs, rfl⟩)) | (refine wpList_ar _ _ _ _ _ rfl rfl rfl _ _ _ rfl rfl (by first | with_reducible assumption | exact Is.const64 (by decide +kernel) | exact Is.const32 (by decide +kernel)) (by first | with_reducible assumption | exact Is.const64 (by decide +kernel) | exact Is.const32 (by decide +kernel)) ?_; intro r n hr))
  go_ret
  exact Post64.mk (by assumption)
theorem powerOf56 (p q : Nat) (u v : Option Nat) (hp : Is .f32 p u) (hq : Is .f32 q v) (hok : NarrowOk (fop .add .f64 (fop .mul .f64 (widen u) (widen u)) (fop .mul .f64 (widen v) (widen v)))) (w : World) :
    Calls Tryz.prog 23 #[.complex .f32 p q] w (Post32 (narrow (fop .add .f64 (fop .mul .f64 (widen u) (widen u)) (fop .mul .f64 (widen v) (widen v)))) w) := by
  have HOK := Lib.hid hok
  clear hok
  go_enter Tryz.func23, Tryz.ntmps23
  go_wp2_with (first | (go_at_call 60; ((with_reducible refine (power97 _ _ _ _ (by with_reducible assumption) (by with_reducible assumption) _).mono ?_); rintro e w' ⟨r, n, rfl, hr, rfl⟩)) | (refine wpList_na _ _ _ rfl rfl _ rfl (by kernel_rfl) (by kernel_rfl) (by assumption) HOK.out ?_; intro r n hr))
  go_ret
  exact Post32.mk (by assumption)
theorem mul58 (p q r s : Nat) (A B C D : Option Nat) (ha : Is .f32 p A) (hb : Is .f32 q B) (hc : Is .f32 r C) (hd : Is .f32 s D)
    (hu : NarrowOk (fop .sub .f64 (fop .mul .f64 (widen A) (widen C)) (fop .mul .f64 (widen B) (widen D)))) (hv : NarrowOk (fop .add .f64 (fop .mul .f64 (widen A) (widen D)) (fop .mul .f64 (widen B) (widen C)))) (w : World) :
    Calls Tryz.prog 22 #[.complex .f32 p q, .complex .f32 r s] w (PostC (narrow (fop .sub .f64 (fop .mul .f64 (widen A) (widen C)) (fop .mul .f64 (widen B) (widen D)))) (narrow (fop .add .f64 (fop .mul .f64 (widen A) (widen D)) (fop .mul .f64 (widen B) (widen C)))) w) := by
  have HU := Lib.hid hu
  have HV := Lib.hid hv
  clear hu hv
  go_enter Tryz.func22, Tryz.ntmps22
  go_wp2_with (first | (go_at_call 58; ((with_reducible refine (parts99 _ _ _ _ (by with_reducible assumption) (by with_reducible assumption) _).mono ?_); rintro e w' ⟨r, s, n, rfl, hr, hs, rfl⟩)) | (go_at_call 59; ((with_reducible refine (times100 _ _ _ _ _ _ _ _ (by with_reducible assumption) (by with_reducible assumption) (by with_reducible assumption) (by with_reducible assumption) _).mono ?_); rintro e w' ⟨r, s, n, rfl, hr, hs, rfl⟩)) | (refine wpList_na _ _ _ rfl rfl _ rfl (by kernel_rfl) (by kernel_rfl) (by assumption) (by first | exact HU.out | exact HV.out) ?_; intro r n hr))
  go_ret
  exact PostC.mk (by assumption) (by assumption)
theorem angle55 (p q u v : Nat) (hp : Is .f32 p (some u)) (hq : Is .f32 q (some v)) (w : World) : Calls Tryz.prog 18 #[.complex .f32 p q] w (Post32 (angS v u) w) := by
  obtain ⟨rfl, h1⟩ := hp.some
  obtain ⟨rfl, h2⟩ := hq.some
  have hc := fun W => implAngle45 q p hq.2 hp.2 W
  go_enter Tryz.func18, Tryz.ntmps18
  go_wp2_with (go_at_call 17; ((with_reducible refine (hc _).mono ?_); rintro e w' ⟨r, n, rfl, hr, rfl⟩))
  go_ret
  exact Post32.mk (by assumption)
/-- A choice of an input below n. -/
def AtN (m : Nat) (w : World) (e : Ending) (w' : World) : Prop := ∃ z : Nat, z < m ∧ e = .returned (.int .i64 (z : Int)) ∧ ∃ n, w' = w.drewN n

theorem at_0_256 (a : Option Addr) (len cap : Nat) (zs : List Int) (w : World) (h : IsRow .u8 w a len cap zs) :
    Calls Tryz.prog 11 #[.slice a len cap, .int .i64 0, .int .i64 256] w (AtN 256 w) := by
  obtain ⟨hl, hll, hm⟩ := h.len
  unfold maxLen at hm
  rcases h with ⟨rfl, rfl, rfl, rfl⟩ | ⟨x, rfl, h1, h2, h3, h4, h5⟩
  · go_enter Tryz.func11, Tryz.ntmps11
    go_wp2
    go_ret
    exact ⟨11, by omega, rfl, 0, rfl⟩
  · by_cases h0 : len ≤ 0
    · have hlt : ¬ (0 : Int) < len := by omega
      clear h2 h3 h4 h5 hl
      go_enter Tryz.func11, Tryz.ntmps11
      go_wp2
      go_ret
      exact ⟨11, by omega, rfl, 0, rfl⟩
    · have hc := h4 0 (by omega)
      have hw := h5 (zs.getD 0 0) (by
        rw [List.getD_eq_getElem?_getD, List.getElem?_eq_getElem (by omega)]
        simp)
      obtain ⟨z, hz⟩ : ∃ z, z = zs.getD 0 0 := ⟨_, rfl⟩
      rw [← hz] at hc hw
      obtain ⟨p1, p2⟩ := Bool.and_eq_true_iff.1 (show (decide (IntKind.u8.min ≤ z) && decide (z ≤ IntKind.u8.max)) = true from hw)
      have hz0 : 0 ≤ z ∧ z ≤ 255 := ⟨of_decide_eq_true p1, of_decide_eq_true p2⟩
      clear p1 p2
      have hc2 : w.cell? x = some (.int .u8 z) := by simpa [Addr.add] using hc
      have hlt : (0 : Int) < len := by omega
      have hlt2 : 0 < len := by omega
      clear h2 h3 h4 h5 h0 hl hz hw
      go_enter Tryz.func11, Tryz.ntmps11
      go_wp2
      go_ret
      exact ⟨(z % 256).toNat, by omega, ret_int (show z % 256 = _ by omega), 0, rfl⟩

theorem at_0_200 (a : Option Addr) (len cap : Nat) (zs : List Int) (w : World) (h : IsRow .u8 w a len cap zs) :
    Calls Tryz.prog 11 #[.slice a len cap, .int .i64 0, .int .i64 200] w (AtN 200 w) := by
  obtain ⟨hl, hll, hm⟩ := h.len
  unfold maxLen at hm
  rcases h with ⟨rfl, rfl, rfl, rfl⟩ | ⟨x, rfl, h1, h2, h3, h4, h5⟩
  · go_enter Tryz.func11, Tryz.ntmps11
    go_wp2
    go_ret
    exact ⟨11, by omega, rfl, 0, rfl⟩
  · by_cases h0 : len ≤ 0
    · have hlt : ¬ (0 : Int) < len := by omega
      clear h2 h3 h4 h5 hl
      go_enter Tryz.func11, Tryz.ntmps11
      go_wp2
      go_ret
      exact ⟨11, by omega, rfl, 0, rfl⟩
    · have hc := h4 0 (by omega)
      have hw := h5 (zs.getD 0 0) (by
        rw [List.getD_eq_getElem?_getD, List.getElem?_eq_getElem (by omega)]
        simp)
      obtain ⟨z, hz⟩ : ∃ z, z = zs.getD 0 0 := ⟨_, rfl⟩
      rw [← hz] at hc hw
      obtain ⟨p1, p2⟩ := Bool.and_eq_true_iff.1 (show (decide (IntKind.u8.min ≤ z) && decide (z ≤ IntKind.u8.max)) = true from hw)
      have hz0 : 0 ≤ z ∧ z ≤ 255 := ⟨of_decide_eq_true p1, of_decide_eq_true p2⟩
      clear p1 p2
      have hc2 : w.cell? x = some (.int .u8 z) := by simpa [Addr.add] using hc
      have hlt : (0 : Int) < len := by omega
      have hlt2 : 0 < len := by omega
      clear h2 h3 h4 h5 h0 hl hz hw
      go_enter Tryz.func11, Tryz.ntmps11
      go_wp2
      go_ret
      exact ⟨(z % 200).toNat, by omega, ret_int (show z % 200 = _ by omega), 0, rfl⟩

theorem at_1_256 (a : Option Addr) (len cap : Nat) (zs : List Int) (w : World) (h : IsRow .u8 w a len cap zs) :
    Calls Tryz.prog 11 #[.slice a len cap, .int .i64 1, .int .i64 256] w (AtN 256 w) := by
  obtain ⟨hl, hll, hm⟩ := h.len
  unfold maxLen at hm
  rcases h with ⟨rfl, rfl, rfl, rfl⟩ | ⟨x, rfl, h1, h2, h3, h4, h5⟩
  · go_enter Tryz.func11, Tryz.ntmps11
    go_wp2
    go_ret
    exact ⟨48, by omega, rfl, 0, rfl⟩
  · by_cases h0 : len ≤ 1
    · have hlt : ¬ (1 : Int) < len := by omega
      clear h2 h3 h4 h5 hl
      go_enter Tryz.func11, Tryz.ntmps11
      go_wp2
      go_ret
      exact ⟨48, by omega, rfl, 0, rfl⟩
    · have hc := h4 1 (by omega)
      have hw := h5 (zs.getD 1 0) (by
        rw [List.getD_eq_getElem?_getD, List.getElem?_eq_getElem (by omega)]
        simp)
      obtain ⟨z, hz⟩ : ∃ z, z = zs.getD 1 0 := ⟨_, rfl⟩
      rw [← hz] at hc hw
      obtain ⟨p1, p2⟩ := Bool.and_eq_true_iff.1 (show (decide (IntKind.u8.min ≤ z) && decide (z ≤ IntKind.u8.max)) = true from hw)
      have hz0 : 0 ≤ z ∧ z ≤ 255 := ⟨of_decide_eq_true p1, of_decide_eq_true p2⟩
      clear p1 p2
      have hc2 : w.cell? ⟨x.block, x.off + 1, none⟩ = some (.int .u8 z) := hc
      clear hc
      have hlt : (1 : Int) < len := by omega
      have hlt2 : 1 < len := by omega
      clear h2 h3 h4 h5 h0 hl hz hw
      go_enter Tryz.func11, Tryz.ntmps11
      go_wp2
      go_ret
      exact ⟨(z % 256).toNat, by omega, ret_int (show z % 256 = _ by omega), 0, rfl⟩

theorem at_1_200 (a : Option Addr) (len cap : Nat) (zs : List Int) (w : World) (h : IsRow .u8 w a len cap zs) :
    Calls Tryz.prog 11 #[.slice a len cap, .int .i64 1, .int .i64 200] w (AtN 200 w) := by
  obtain ⟨hl, hll, hm⟩ := h.len
  unfold maxLen at hm
  rcases h with ⟨rfl, rfl, rfl, rfl⟩ | ⟨x, rfl, h1, h2, h3, h4, h5⟩
  · go_enter Tryz.func11, Tryz.ntmps11
    go_wp2
    go_ret
    exact ⟨48, by omega, rfl, 0, rfl⟩
  · by_cases h0 : len ≤ 1
    · have hlt : ¬ (1 : Int) < len := by omega
      clear h2 h3 h4 h5 hl
      go_enter Tryz.func11, Tryz.ntmps11
      go_wp2
      go_ret
      exact ⟨48, by omega, rfl, 0, rfl⟩
    · have hc := h4 1 (by omega)
      have hw := h5 (zs.getD 1 0) (by
        rw [List.getD_eq_getElem?_getD, List.getElem?_eq_getElem (by omega)]
        simp)
      obtain ⟨z, hz⟩ : ∃ z, z = zs.getD 1 0 := ⟨_, rfl⟩
      rw [← hz] at hc hw
      obtain ⟨p1, p2⟩ := Bool.and_eq_true_iff.1 (show (decide (IntKind.u8.min ≤ z) && decide (z ≤ IntKind.u8.max)) = true from hw)
      have hz0 : 0 ≤ z ∧ z ≤ 255 := ⟨of_decide_eq_true p1, of_decide_eq_true p2⟩
      clear p1 p2
      have hc2 : w.cell? ⟨x.block, x.off + 1, none⟩ = some (.int .u8 z) := hc
      clear hc
      have hlt : (1 : Int) < len := by omega
      have hlt2 : 1 < len := by omega
      clear h2 h3 h4 h5 h0 hl hz hw
      go_enter Tryz.func11, Tryz.ntmps11
      go_wp2
      go_ret
      exact ⟨(z % 200).toNat, by omega, ret_int (show z % 200 = _ by omega), 0, rfl⟩

theorem long30 (a1 : Option Addr) (len1 cap1 : Nat) (a2 : Option Addr) (len2 cap2 : Nat) (h1 : len1 ≤ maxLen) (h2 : len2 ≤ maxLen) (w : World) :
    Calls Tryz.prog 5 #[.slice a1 len1 cap1, .slice a2 len2 cap2] w fun e w' => e = .returned (.bool (decide (1048576 < len1) || decide (1048576 < len2))) ∧ w = w' := by
  unfold maxLen at h1 h2
  by_cases c1 : 1048576 < len1
  · go_enter Tryz.func5, Tryz.ntmps5
    go_wp2
    go_ret
    exact ⟨by simp [c1], rfl⟩
  · by_cases c2 : 1048576 < len2
    · go_enter Tryz.func5, Tryz.ntmps5
      go_wp2
      go_ret
      exact ⟨by simp [c1, c2]; omega, rfl⟩
    · go_enter Tryz.func5, Tryz.ntmps5
      go_wp2
      go_ret
      exact ⟨by simp [c1, c2]; omega, rfl⟩
theorem IsRow.drew {k : IntKind} {w : World} {a : Option Addr} {len cap : Nat} {zs : List Int} (h : IsRow k w a len cap zs) (n : Nat) : IsRow k (w.drewN n) a len cap zs := by
  rcases h with h | ⟨x, h1, h2, h3, h4, h5, h6⟩
  · exact .inl h
  · exact .inr ⟨x, h1, h2, h3, h4, fun i hi => by rw [← h5 i hi]; go_simp, h6⟩
theorem call120 (args : Array Value) (w : World) : (callFunc 45 args).run Tryz.prog w = ((Extern.MathFloatBits.float32bits args).run Tryz.prog w).andThen fun v w' => .ok (.value v) w' :=
  run_callFunc_extern Tryz.func45 (by kernel_rfl) (by kernel_rfl) (by kernel_rfl) (by kernel_rfl) args w
theorem bits120 (b : Nat) (w : World) : (callFunc 45 #[.float .f32 b]).run Tryz.prog w = .ok (.value (.int .u32 b)) w := by rw [call120]; rfl
theorem bits102 (b : Nat) (hb : b < 4294967296) (hn : FloatKind.f32.format.nan b = false) (w : World) : Calls Tryz.prog 78 #[.float .f32 b] w fun e w' => e = .returned (.int .i64 b) ∧ w = w' := by
  have ho := neq_self .f32 b
  have hc := fun w => bits120 b w
  rw [hn] at ho
  clear hn
  go_enter Tryz.func78, Tryz.ntmps78
  go_wp2
  go_ret
  exact ⟨rfl, rfl⟩
/-- A quarter is not nothing. -/
theorem same59 (b : Nat) (hb : b < 4294967296) (hn : FloatKind.f32.format.nan b = false) (h0 : ¬ (b : Int) = 0) (w : World) : Calls Tryz.prog 15 #[.float .f32 b, .float .f32 0] w fun e w' => e = .returned (.bool false) ∧ w = w' := by
  have h1 := fun W => bits102 b hb hn W
  have h2 := fun W => bits102 0 (by decide +kernel) (by decide +kernel) W
  have hs : ∀ W, Calls Tryz.prog 52 #[.float .f32 b, .float .f32 0] W fun e w' => e = .returned (.bool false) ∧ W = w' := by
    intro W
    go_enter Tryz.func52, Tryz.ntmps52
    go_wp2_with (first | (go_at_call 78; (with_reducible refine (h1 _).mono ?_); rintro e w' ⟨rfl, rfl⟩) | (go_at_call 78; (with_reducible refine (h2 _).mono ?_); rintro e w' ⟨rfl, rfl⟩))
    go_ret
    exact ⟨by show Ending.returned (.bool ((b : Int) == 0)) = _; rw [beq_eq_false_iff_ne.2 h0], rfl⟩
  go_enter Tryz.func15, Tryz.ntmps15
  go_wp2_with (go_at_call 52; refine (hs _).mono ?_; rintro e w' ⟨rfl, rfl⟩)
  go_ret
  exact ⟨rfl, rfl⟩
end Go.Proofs.YtpfjcfhgckpjmaaGreatDoor.Cw
