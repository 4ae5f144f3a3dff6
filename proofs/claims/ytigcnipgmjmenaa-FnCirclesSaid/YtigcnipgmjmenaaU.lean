/- Walks: bits, absolute value, subnormal, flushing. -/
import Derived.Test.YtigcnipgmjmenaaR
import Derived.Test.YtigcnipgmjmenaaFf
namespace Go.Proofs.Ytigcnipgmjmenaa
open Go.Fl Go.RowKit Ieee

theorem call120 (args : Array Value) (w : World) : (callFunc 120 args).run Try.prog w = ((Extern.MathFloatBits.float32bits args).run Try.prog w).andThen fun v w' => .ok (.value v) w' :=
  run_callFunc_extern Try.func120 (by kernel_rfl) (by kernel_rfl) (by kernel_rfl) (by kernel_rfl) args w
theorem bits120 (b : Nat) (w : World) : (callFunc 120 #[.float .f32 b]).run Try.prog w = .ok (.value (.int .u32 b)) w := by rw [call120]; rfl
theorem call103 (args : Array Value) (w : World) : (callFunc 103 args).run Try.prog w = ((Extern.MathFloatBits.float64frombits args).run Try.prog w).andThen fun v w' => .ok (.value v) w' :=
  run_callFunc_extern Try.func103 (by kernel_rfl) (by kernel_rfl) (by kernel_rfl) (by kernel_rfl) args w
theorem from103 (n : Int) (w : World) : (callFunc 103 #[.int .u64 n]).run Try.prog w = .ok (.value (.float .f64 n.toNat)) w := by rw [call103]; rfl
theorem call104 (args : Array Value) (w : World) : (callFunc 104 args).run Try.prog w = ((Extern.MathFloatBits.float64bits args).run Try.prog w).andThen fun v w' => .ok (.value v) w' :=
  run_callFunc_extern Try.func104 (by kernel_rfl) (by kernel_rfl) (by kernel_rfl) (by kernel_rfl) args w
theorem bits104 (b : Nat) (w : World) : (callFunc 104 #[.float .f64 b]).run Try.prog w = .ok (.value (.int .u64 b)) w := by rw [call104]; rfl

theorem specBits (b : Nat) (hb : b < 4294967296) (w : World) : Calls Try.prog 102 #[.float .f32 b] w fun e w' => e = .returned (.int .i64 (bitsV (val .f32 b))) ∧ w = w' := by
  have ho := neq_self .f32 b
  have hc := fun w => bits120 b w
  by_cases hn : FloatKind.f32.format.nan b = true
  · rw [hn] at ho
    rw [val_nan hn]
    clear hn
    go_enter Try.func102, Try.ntmps102
    go_wp2
    go_ret
    exact ⟨rfl, rfl⟩
  · have hn' : FloatKind.f32.format.nan b = false := by simpa using hn
    rw [hn'] at ho
    rw [val_num hn']
    clear hn hn'
    go_enter Try.func102, Try.ntmps102
    go_wp2
    go_ret
    exact ⟨rfl, rfl⟩

theorem abs (b : Nat) (hb : b < 18446744073709551616) (w : World) : Calls Try.prog 76 #[.float .f64 b] w fun e w' => e = .returned (.float .f64 (b % 9223372036854775808)) ∧ w = w' := by
  have hc := fun w => bits104 b w
  have hc2 := fun n w => from103 n w
  go_enter Try.func76, Try.ntmps76
  go_wp2
  go_ret
  exact ⟨by rw [← bits_andNot b hb]; rfl, rfl⟩

theorem copysign66 (r : Nat) (hr : r < 18446744073709551616) (w : World) : Calls Try.prog 66 #[.float .f64 0, .float .f64 r] w fun e w' => e = .returned (.float .f64 (signZero64 r)) ∧ w = w' := by
  have hc := fun b w => bits104 b w
  have hc2 := fun n w => from103 n w
  go_enter Try.func66, Try.ntmps66
  go_wp2
  go_ret
  exact ⟨by rw [← copysign r hr]; rfl, rfl⟩

/-- Is a number subnormal? -/
def subB (b : Nat) : Bool := (FloatKind.f32.format.order b 0 != some .eq) && lowB b

theorem implSub (b : Nat) (w : World) : Calls Try.prog 65 #[.float .f32 b] w fun e w' => e = .returned (.bool (subB b)) ∧ ∃ n, w' = w.drewN n := by
  cases h1 : (FloatKind.f32.format.order b 0 != some .eq) with
  | false =>
    have hs : subB b = false := by unfold subB; rw [h1]; rfl
    rw [hs]
    clear hs
    go_enter Try.func65, Try.ntmps65
    go_wp2
    go_ret
    exact ⟨rfl, 0, rfl⟩
  | true =>
    have hs : subB b = lowB b := by unfold subB; rw [h1]; rfl
    rw [hs]
    clear hs
    go_enter Try.func65, Try.ntmps65
    go_wp2_with (first | (refine wpList_widen _ _ _ rfl rfl _ rfl (by kernel_rfl) (by kernel_rfl) ?_; intro r n hr) | (go_at_call 76; refine (abs _ hr.2 _).mono ?_; rintro e w' ⟨rfl, rfl⟩))
    go_ret
    exact ⟨by rw [← low_impl hr]; rfl, _, rfl⟩

theorem specFlush (b : Nat) (hb : b < 4294967296) (w : World) : Calls Try.prog 64 #[.float .f32 b] w fun e w' => ∃ r n, e = .returned (.float .f32 r) ∧ Is .f32 r (flushV b) ∧ w' = w.drewN n := by
  have hl := low_spec hb
  cases h1 : lowB b with
  | false =>
    have hf : flushV b = val .f32 b := by unfold flushV; rw [h1]; rfl
    rw [hf]
    rw [h1] at hl
    clear hf h1
    go_enter Try.func64, Try.ntmps64
    go_wp2_with (go_at_call 102; refine (specBits _ hb _).mono ?_; rintro e w' ⟨rfl, rfl⟩)
    go_ret
    exact ⟨_, 0, rfl, Is.of_lt hb, rfl⟩
  | true =>
    have hf : flushV b = .some (signZero b) := by unfold flushV; rw [h1]; rfl
    have hv : bitsV (val .f32 b) = (b : Int) := by
      unfold lowB at h1
      have hn : single.nan b = false := by
        cases hx : single.nan b with
        | false => rfl
        | true => rw [hx] at h1; cases h1
      rw [val_num (k := .f32) hn]; rfl
    rw [hf]
    rw [h1, hv] at hl
    have hs := sign_spec b hb
    have hz : 0 ≤ (signZero b : Int) ∧ (signZero b : Int) ≤ 4294967295 := by unfold signZero; split <;> simp
    have HV := Lib.hid hv
    clear hf h1 hv
    go_enter Try.func64, Try.ntmps64
    go_wp2_with (first | (go_at_call 102; refine (specBits _ hb _).mono ?_; rintro e w' ⟨rfl, rfl⟩; rw [HV.out]) | (go_at_call 61; refine (specFrom _ hz.1 hz.2 _).mono ?_; rintro e w' ⟨rfl, rfl⟩))
    go_ret
    exact ⟨_, 0, rfl, signZero_is b, rfl⟩

theorem specFlushNumber (b : Nat) (hb : b < 4294967296) (w : World) : Calls Try.prog 20 #[.float .f32 b] w fun e w' => ∃ r n, e = .returned (.float .f32 r) ∧ Is .f32 r (flushV b) ∧ w' = w.drewN n := by
  go_enter Try.func20, Try.ntmps20
  go_wp2_with (go_at_call 64; refine (specFlush _ hb _).mono ?_; rintro e w' ⟨r, n, rfl, hr, rfl⟩)
  go_ret
  exact ⟨_, _, rfl, hr, rfl⟩

theorem implFlushNumber (b : Nat) (hb : b < 4294967296) (w : World) : Calls Try.prog 21 #[.float .f32 b] w fun e w' => ∃ r n, e = .returned (.float .f32 r) ∧ Is .f32 r (flushV b) ∧ w' = w.drewN n := by
  cases hs : subB b with
  | false =>
    have hf : flushV b = val .f32 b := by
      cases h0 : (FloatKind.f32.format.order b 0 != some .eq) with
      | false => exact flush_zero hb h0
      | true =>
        have : lowB b = false := by unfold subB at hs; rw [h0] at hs; exact hs
        unfold flushV; rw [this]; rfl
    rw [hf]
    have HS := Lib.hid hs
    clear hs hf
    go_enter Try.func21, Try.ntmps21
    go_wp2_with (go_at_call 65; refine (implSub _ _).mono ?_; rintro e w' ⟨rfl, n, rfl⟩; rw [HS.out])
    go_ret
    exact ⟨_, _, rfl, Is.of_lt hb, rfl⟩
  | true =>
    have hl : lowB b = true := by
      unfold subB at hs
      cases h0 : (FloatKind.f32.format.order b 0 != some .eq) with
      | false => rw [h0] at hs; cases hs
      | true => rw [h0] at hs; exact hs
    have hf : flushV b = .some (signZero b) := by unfold flushV; rw [hl]; rfl
    rw [hf]
    have HS := Lib.hid hs
    have HL := Lib.hid hl
    clear hs hf hl
    go_enter Try.func21, Try.ntmps21
    go_wp2_with (first | (go_at_call 65; refine (implSub _ _).mono ?_; rintro e w' ⟨rfl, n, rfl⟩; rw [HS.out]) | (refine wpList_widen _ _ _ rfl rfl _ rfl (by kernel_rfl) (by kernel_rfl) ?_; intro r n hr) | (go_at_call 66; refine (copysign66 _ hr.2 _).mono ?_; rintro e w' ⟨rfl, rfl⟩) | (refine wpList_narrow _ _ _ rfl rfl _ rfl (by kernel_rfl) (by kernel_rfl) (zero_narrow r).1 ?_; intro r3 n3 hr3))
    go_ret
    exact ⟨_, _, rfl, by rw [(zero_narrow r).2, sign_widen hb HL.out hr] at hr3; exact hr3, rfl⟩

theorem flushWalk (a0 : Nat) (w : World) (w0 : (Lit.float .f32 a0).wf = true) :
    Calls Try.prog 4 #[.float .f32 a0] w fun e w' => e = .returned (.bool true) ∧ Below w.heap.size w w' := by
  have hb := lt32 w0
  clear w0
  go_enter Try.func4, Try.ntmps4
  go_wp2_with (first | (go_at_call 20; refine (specFlushNumber _ hb _).mono ?_; rintro e w' ⟨rW, nW, rfl, hW, rfl⟩) | (go_at_call 21; refine (implFlushNumber _ hb _).mono ?_; rintro e w' ⟨rG, nG, rfl, hG, rfl⟩) | (refine wpList_widen _ _ _ rfl rfl _ rfl (by kernel_rfl) (by kernel_rfl) ?_; intro r n hr) | (go_at_call 19; refine (sameNarrow _ _ ‹_› ‹_› (hG.1.trans hW.1.symm) _).mono ?_; rintro e w' ⟨rfl, n, rfl⟩))
  go_ret
  exact ⟨rfl, below_drewN (Below.refl _ _) _⟩
end Go.Proofs.Ytigcnipgmjmenaa
