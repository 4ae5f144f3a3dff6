/- Walks: the bits of a number; equality of numbers. -/
import Derived.Test.YtomgfpifddiioaaChecked
import Derived.Test.YtomgfpifddiioaaFl
import Derived.WalkSmall
import Derived.Below
import Derived.Lib.Hide
import Derived.Test.YtomgfpifddiioaaFb
namespace Go.Proofs.Ytomgfpifddiioaa
open Go.Fl Go.RowKit Ieee

theorem call29 (args : Array Value) (w : World) : (callFunc 29 args).run Try.prog w = ((Extern.MathFloatBits.float32bits args).run Try.prog w).andThen fun v w' => .ok (.value v) w' :=
  run_callFunc_extern Try.func29 (by kernel_rfl) (by kernel_rfl) (by kernel_rfl) (by kernel_rfl) args w
theorem bits29 (b : Nat) (w : World) : (callFunc 29 #[.float .f32 b]).run Try.prog w = .ok (.value (.int .u32 b)) w := by rw [call29]; rfl

theorem call36 (args : Array Value) (w : World) : (callFunc 36 args).run Try.prog w = ((Extern.MathFloatBits.float64frombits args).run Try.prog w).andThen fun v w' => .ok (.value v) w' :=
  run_callFunc_extern Try.func36 (by kernel_rfl) (by kernel_rfl) (by kernel_rfl) (by kernel_rfl) args w
theorem from36 (n : Int) (w : World) : (callFunc 36 #[.int .u64 n]).run Try.prog w = .ok (.value (.float .f64 n.toNat)) w := by rw [call36]; rfl
theorem call37 (args : Array Value) (w : World) : (callFunc 37 args).run Try.prog w = ((Extern.MathFloatBits.float64bits args).run Try.prog w).andThen fun v w' => .ok (.value v) w' :=
  run_callFunc_extern Try.func37 (by kernel_rfl) (by kernel_rfl) (by kernel_rfl) (by kernel_rfl) args w
theorem bits37 (b : Nat) (w : World) : (callFunc 37 #[.float .f64 b]).run Try.prog w = .ok (.value (.int .u64 b)) w := by rw [call37]; rfl

theorem specBits (b : Nat) (hb : b < 4294967296) (w : World) : Calls Try.prog 28 #[.float .f32 b] w fun e w' => e = .returned (.int .i64 (bitsV (val .f32 b))) ∧ w = w' := by
  have ho := neq_self .f32 b
  have hc := fun w => bits29 b w
  by_cases hn : FloatKind.f32.format.nan b = true
  · rw [hn] at ho
    rw [val_nan hn]
    clear hn
    go_enter Try.func28, Try.ntmps28
    go_wp2
    go_ret
    exact ⟨rfl, rfl⟩
  · have hn' : FloatKind.f32.format.nan b = false := by simpa using hn
    rw [hn'] at ho
    rw [val_num hn']
    clear hn hn'
    go_enter Try.func28, Try.ntmps28
    go_wp2
    go_ret
    exact ⟨rfl, rfl⟩

theorem implBits (b : Nat) (hb : b < 4294967296) (w : World) : Calls Try.prog 17 #[.float .f32 b] w fun e w' => e = .returned (.int .i64 (bitsV (val .f32 b))) ∧ w = w' := by
  have ho := neq_self .f32 b
  have hc := fun w => bits29 b w
  by_cases hn : FloatKind.f32.format.nan b = true
  · rw [hn] at ho
    rw [val_nan hn]
    clear hn
    go_enter Try.func17, Try.ntmps17
    go_wp2
    go_ret
    exact ⟨rfl, rfl⟩
  · have hn' : FloatKind.f32.format.nan b = false := by simpa using hn
    rw [hn'] at ho
    rw [val_num hn']
    clear hn hn'
    go_enter Try.func17, Try.ntmps17
    go_wp2
    go_ret
    exact ⟨rfl, rfl⟩

theorem specBitsOf (b : Nat) (hb : b < 4294967296) (w : World) : Calls Try.prog 16 #[.float .f32 b] w fun e w' => e = .returned (.int .i64 (bitsV (val .f32 b))) ∧ w = w' := by
  go_enter Try.func16, Try.ntmps16
  go_wp2_with (go_at_call 28; refine (specBits _ hb _).mono ?_; rintro e w' ⟨rfl, rfl⟩)
  go_ret
  exact ⟨rfl, rfl⟩

theorem lt32 {b : Nat} (h : (Lit.float .f32 b).wf = true) : b < 4294967296 := by simpa [Lit.wf] using h
theorem lt64 {b : Nat} (h : (Lit.float .f64 b).wf = true) : b < 18446744073709551616 := by simpa [Lit.wf] using h

theorem bitsOfWalk (a0 : Nat) (w : World) (w0 : (Lit.float .f32 a0).wf = true) :
    Calls Try.prog 6 #[.float .f32 a0] w fun e w' => e = .returned (.bool true) ∧ Below w.heap.size w w' := by
  have hb := lt32 w0
  clear w0
  go_enter Try.func6, Try.ntmps6
  go_wp2_with (first | (go_at_call 16; refine (specBitsOf _ hb _).mono ?_; rintro e w' ⟨rfl, rfl⟩) | (go_at_call 17; refine (implBits _ hb _).mono ?_; rintro e w' ⟨rfl, rfl⟩))
  go_ret
  exact ⟨rfl, Below.refl _ _⟩

theorem abs (b : Nat) (hb : b < 18446744073709551616) (w : World) : Calls Try.prog 30 #[.float .f64 b] w fun e w' => e = .returned (.float .f64 (b % 9223372036854775808)) ∧ w = w' := by
  have hc := fun w => bits37 b w
  have hc2 := fun n w => from36 n w
  go_enter Try.func30, Try.ntmps30
  go_wp2
  go_ret
  exact ⟨by rw [← bits_andNot b hb]; rfl, rfl⟩

theorem signbit (b : Nat) (hb : b < 18446744073709551616) (w : World) : Calls Try.prog 32 #[.float .f64 b] w fun e w' => e = .returned (.bool (double.isNeg b)) ∧ w = w' := by
  have hc := fun w => bits37 b w
  go_enter Try.func32, Try.ntmps32
  go_wp2
  go_ret
  exact ⟨by rw [isNeg_dbl b hb, ← wrap_neg b hb]; rfl, rfl⟩

/-- Is a number subnormal? -/
def subB (b : Nat) : Bool := (FloatKind.f32.format.order b 0 != some .eq) && lowB b

theorem specSub (b : Nat) (hb : b < 4294967296) (w : World) : Calls Try.prog 20 #[.float .f32 b] w fun e w' => e = .returned (.bool (subB b)) ∧ w = w' := by
  have hl := low_spec hb
  cases h1 : (FloatKind.f32.format.order b 0 != some .eq) with
  | false =>
    have hs : subB b = false := by unfold subB; rw [h1]; rfl
    rw [hs]
    clear hs hl
    go_enter Try.func20, Try.ntmps20
    go_wp2
    go_ret
    exact ⟨rfl, rfl⟩
  | true =>
    have hs : subB b = lowB b := by unfold subB; rw [h1]; rfl
    rw [hs]
    clear hs
    go_enter Try.func20, Try.ntmps20
    go_wp2_with (go_at_call 28; refine (specBits _ hb _).mono ?_; rintro e w' ⟨rfl, rfl⟩)
    go_ret
    exact ⟨rfl, rfl⟩

theorem implSub (b : Nat) (w : World) : Calls Try.prog 21 #[.float .f32 b] w fun e w' => e = .returned (.bool (subB b)) ∧ ∃ n, w' = w.drewN n := by
  cases h1 : (FloatKind.f32.format.order b 0 != some .eq) with
  | false =>
    have hs : subB b = false := by unfold subB; rw [h1]; rfl
    rw [hs]
    clear hs
    go_enter Try.func21, Try.ntmps21
    go_wp2
    go_ret
    exact ⟨rfl, 0, rfl⟩
  | true =>
    have hs : subB b = lowB b := by unfold subB; rw [h1]; rfl
    rw [hs]
    clear hs
    go_enter Try.func21, Try.ntmps21
    go_wp2_with (first | (refine wpList_widen _ _ _ rfl rfl _ rfl (by kernel_rfl) (by kernel_rfl) ?_; intro r n hr) | (go_at_call 30; refine (abs _ hr.2 _).mono ?_; rintro e w' ⟨rfl, rfl⟩))
    go_ret
    exact ⟨by rw [← low_impl hr]; rfl, _, rfl⟩

theorem isSubnormalWalk (a0 : Nat) (w : World) (w0 : (Lit.float .f32 a0).wf = true) :
    Calls Try.prog 8 #[.float .f32 a0] w fun e w' => e = .returned (.bool true) ∧ Below w.heap.size w w' := by
  have hb := lt32 w0
  clear w0
  go_enter Try.func8, Try.ntmps8
  go_wp2_with (first | (go_at_call 20; refine (specSub _ hb _).mono ?_; rintro e w' ⟨rfl, rfl⟩) | (go_at_call 21; refine (implSub _ _).mono ?_; rintro e w' ⟨rfl, n, rfl⟩))
  go_ret
  exact ⟨rfl, below_drewN (Below.refl _ _) _⟩

/-- Are two numbers the same? -/
def sameB (a b : Nat) : Bool := bitsV (val .f32 a) == bitsV (val .f32 b)

theorem specSame (a b : Nat) (ha : a < 4294967296) (hb : b < 4294967296) (w : World) : Calls Try.prog 31 #[.float .f32 a, .float .f32 b] w fun e w' => e = .returned (.bool (sameB a b)) ∧ w = w' := by
  go_enter Try.func31, Try.ntmps31
  go_wp2_with (go_at_call 28; refine (specBits _ (by assumption) _).mono ?_; rintro e w' ⟨rfl, rfl⟩)
  go_ret
  exact ⟨rfl, rfl⟩

theorem specSameNumber (a b : Nat) (ha : a < 4294967296) (hb : b < 4294967296) (w : World) : Calls Try.prog 22 #[.float .f32 a, .float .f32 b] w fun e w' => e = .returned (.bool (sameB a b)) ∧ w = w' := by
  go_enter Try.func22, Try.ntmps22
  go_wp2_with (go_at_call 31; refine (specSame _ _ ha hb _).mono ?_; rintro e w' ⟨rfl, rfl⟩)
  go_ret
  exact ⟨rfl, rfl⟩

theorem implSameNumber (a b : Nat) (ha : a < 4294967296) (hb : b < 4294967296) (w : World) : Calls Try.prog 23 #[.float .f32 a, .float .f32 b] w fun e w' => e = .returned (.bool (sameB a b)) ∧ ∃ n, w' = w.drewN n := by
  have oa := neq_self .f32 a
  have ob := neq_self .f32 b
  cases hna : FloatKind.f32.format.nan a with
  | true =>
    rw [hna] at oa
    cases hnb : FloatKind.f32.format.nan b with
    | true =>
      rw [hnb] at ob
      have hs : sameB a b = true := by unfold sameB; rw [val_nan hna, val_nan hnb]; rfl
      rw [hs]
      clear hs hna hnb
      go_enter Try.func23, Try.ntmps23
      go_wp2
      go_ret
      exact ⟨rfl, 0, rfl⟩
    | false =>
      rw [hnb] at ob
      have hs : sameB a b = false := by unfold sameB; rw [val_nan hna, val_num hnb]; exact (bits_nan_num hnb).1
      rw [hs]
      clear hs hna hnb
      go_enter Try.func23, Try.ntmps23
      go_wp2
      go_ret
      exact ⟨rfl, 0, rfl⟩
  | false =>
    rw [hna] at oa
    cases hnb : FloatKind.f32.format.nan b with
    | true =>
      rw [hnb] at ob
      have hs : sameB a b = false := by unfold sameB; rw [val_num hna, val_nan hnb]; exact (bits_nan_num hna).2
      rw [hs]
      clear hs hna hnb
      go_enter Try.func23, Try.ntmps23
      go_wp2
      go_ret
      exact ⟨rfl, 0, rfl⟩
    | false =>
      rw [hnb] at ob
      have hs := same_bits ha hb hna hnb
      have va := val_num hna
      have vb := val_num hnb
      have HA := @widen_neg a
      have HB := @widen_neg b
      cases he : (FloatKind.f32.format.order a b == some .eq) with
      | false =>
        have hs' : sameB a b = false := by unfold sameB; rw [← hs, he]; rfl
        rw [hs']
        clear hs hs' hna hnb va vb HA HB
        go_enter Try.func23, Try.ntmps23
        go_wp2
        go_ret
        exact ⟨rfl, 0, rfl⟩
      | true =>
        have hs' : sameB a b = (single.isNeg a == single.isNeg b) := by unfold sameB; rw [← hs, he]; rfl
        rw [hs']
        have KA : ∀ r, Is .f64 r (widen (val .f32 a)) → double.isNeg r = single.isNeg a := fun r h => HA hna (by rw [va] at h; exact h)
        have KB : ∀ r, Is .f64 r (widen (val .f32 b)) → double.isNeg r = single.isNeg b := fun r h => HB hnb (by rw [vb] at h; exact h)
        have HKA := Lib.hid KA
        have HKB := Lib.hid KB
        clear hs hs' hna hnb va vb HA HB KA KB
        go_enter Try.func23, Try.ntmps23
        go_wp2_with (first | (refine wpList_widen _ _ _ rfl rfl _ rfl (by kernel_rfl) (by kernel_rfl) ?_; intro r n hr) | (go_at_call 32; refine (signbit _ (Is.lt (by assumption)) _).mono ?_; rintro e w' ⟨rfl, rfl⟩))
        go_ret
        exact ⟨by rw [← HKA.out _ ‹Is .f64 _ (widen (val .f32 a))›, ← HKB.out _ ‹Is .f64 _ (widen (val .f32 b))›]; rfl, _, rfl⟩

theorem sameNumberWalk (a0 a1 : Nat) (w : World) (w0 : (Lit.float .f32 a0).wf = true) (w1 : (Lit.float .f32 a1).wf = true) :
    Calls Try.prog 9 #[.float .f32 a0, .float .f32 a1] w fun e w' => e = .returned (.bool true) ∧ Below w.heap.size w w' := by
  have ha := lt32 w0
  have hb := lt32 w1
  clear w0 w1
  go_enter Try.func9, Try.ntmps9
  go_wp2_with (first | (go_at_call 22; refine (specSameNumber _ _ ha hb _).mono ?_; rintro e w' ⟨rfl, rfl⟩) | (go_at_call 23; refine (implSameNumber _ _ ha hb _).mono ?_; rintro e w' ⟨rfl, n, rfl⟩))
  go_ret
  exact ⟨rfl, below_drewN (Below.refl _ _) _⟩
end Go.Proofs.Ytomgfpifddiioaa
