/- Walks: two numbers are the same; a number out of its bits. -/
import Derived.Test.YtpfjcfhgckpjmaaDoorChecked
import Derived.Test.YtpfjcfhgckpjmaaDoorFl
import Derived.Test.YtpfjcfhgckpjmaaDoorFb
import Derived.WalkSmall
import Derived.Below
import Derived.Outline
import Derived.Lib.Hide
namespace Go.Proofs.YtpfjcfhgckpjmaaDoor
open Go.Fl Go.RowKit Ieee

theorem lt32 {b : Nat} (h : (Lit.float .f32 b).wf = true) : b < 4294967296 := by simpa [Lit.wf] using h
theorem lt64 {b : Nat} (h : (Lit.float .f64 b).wf = true) : b < 18446744073709551616 := by simpa [Lit.wf] using h

theorem sameNaN (a b : Nat) (ha : Is .f64 a none) (hb : Is .f64 b none) (w : World) : Calls Tryd.prog 23 #[.float .f64 a, .float .f64 b] w fun e w' => e = .returned (.bool true) ∧ ∃ n, w' = w.drewN n := by
  have oa := neq_self .f64 a
  have ob := neq_self .f64 b
  rw [ha.none] at oa
  rw [hb.none] at ob
  clear ha hb
  go_enter Tryd.func23, Tryd.ntmps23
  go_wp2
  go_ret
  exact ⟨rfl, 0, rfl⟩

theorem sameNum (a : Nat) (ha : FloatKind.f64.format.nan a = false) (w : World) : Calls Tryd.prog 23 #[.float .f64 a, .float .f64 a] w fun e w' => e = .returned (.bool true) ∧ ∃ n, w' = w.drewN n := by
  have oa := neq_self .f64 a
  have oe : (FloatKind.f64.format.order a a == some .eq) = true := by
    have := oa
    rw [ha] at this
    simpa using this
  rw [ha] at oa
  clear ha
  cases hz : (FloatKind.f64.format.order a 0 == some .eq) with
  | false =>
    go_enter Tryd.func23, Tryd.ntmps23
    go_wp2
    go_ret
    exact ⟨rfl, 0, rfl⟩
  | true =>
    go_enter Tryd.func23, Tryd.ntmps23
    go_wp2_with (refine wpList_farith _ _ _ _ _ rfl rfl rfl _ _ _ rfl rfl ?_; intro r n hr)
    go_ret
    rename_i r1 n1 h1
    refine ⟨?_, _, rfl⟩
    show Ending.returned (Value.bool ((FloatKind.f64.format.order r1 0 == some .gt) == (FloatKind.f64.format.order r 0 == some .gt))) = _
    rw [h1.same_order hr, beq_self_eq_true]

theorem sameFloat (a b : Nat) (v : Option Nat) (ha : Is .f64 a v) (hb : Is .f64 b v) (w : World) : Calls Tryd.prog 23 #[.float .f64 a, .float .f64 b] w fun e w' => e = .returned (.bool true) ∧ ∃ n, w' = w.drewN n := by
  cases v with
  | none => exact sameNaN a b ha hb w
  | some x =>
    obtain ⟨rfl, hn⟩ := ha.some
    obtain ⟨rfl, -⟩ := hb.some
    exact sameNum b hn w

theorem call40 (args : Array Value) (w : World) : (callFunc 40 args).run Tryd.prog w = ((Extern.MathFloatBits.float32frombits args).run Tryd.prog w).andThen fun v w' => .ok (.value v) w' :=
  run_callFunc_extern Tryd.func40 (by kernel_rfl) (by kernel_rfl) (by kernel_rfl) (by kernel_rfl) args w
theorem from40 (n : Int) (w : World) : (callFunc 40 #[.int .u32 n]).run Tryd.prog w = .ok (.value (.float .f32 n.toNat)) w := by rw [call40]; rfl

theorem specFrom (n : Int) (h0 : 0 ≤ n) (h1 : n ≤ 4294967295) (w : World) : Calls Tryd.prog 36 #[.int .i64 n] w fun e w' => e = .returned (.float .f32 n.toNat) ∧ w = w' := by
  have hc := fun n w => from40 n w
  go_enter Tryd.func36, Tryd.ntmps36
  go_wp2
  go_ret
  exact ⟨rfl, rfl⟩

end Go.Proofs.YtpfjcfhgckpjmaaDoor
