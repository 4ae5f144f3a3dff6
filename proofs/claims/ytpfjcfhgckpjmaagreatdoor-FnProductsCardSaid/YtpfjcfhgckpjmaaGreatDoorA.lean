/- Walks: two numbers are the same; a number out of its bits. -/
import Derived.Test.YtpfjcfhgckpjmaaGreatDoorChecked
import Derived.Test.YtpfjcfhgckpjmaaGreatDoorFl
import Derived.Test.YtpfjcfhgckpjmaaGreatDoorFb
import Derived.WalkSmall
import Derived.Below
import Derived.Outline
import Derived.Lib.Hide
namespace Go.Proofs.YtpfjcfhgckpjmaaGreatDoor
open Go.Fl Go.RowKit Ieee

theorem lt32 {b : Nat} (h : (Lit.float .f32 b).wf = true) : b < 4294967296 := by simpa [Lit.wf] using h
theorem lt64 {b : Nat} (h : (Lit.float .f64 b).wf = true) : b < 18446744073709551616 := by simpa [Lit.wf] using h

theorem call40 (args : Array Value) (w : World) : (callFunc 44 args).run Tryz.prog w = ((Extern.MathFloatBits.float32frombits args).run Tryz.prog w).andThen fun v w' => .ok (.value v) w' :=
  run_callFunc_extern Tryz.func44 (by kernel_rfl) (by kernel_rfl) (by kernel_rfl) (by kernel_rfl) args w
theorem from40 (n : Int) (w : World) : (callFunc 44 #[.int .u32 n]).run Tryz.prog w = .ok (.value (.float .f32 n.toNat)) w := by rw [call40]; rfl

theorem specFrom (n : Int) (h0 : 0 ≤ n) (h1 : n ≤ 4294967295) (w : World) : Calls Tryz.prog 41 #[.int .i64 n] w fun e w' => e = .returned (.float .f32 n.toNat) ∧ w = w' := by
  have hc := fun n w => from40 n w
  go_enter Tryz.func41, Tryz.ntmps41
  go_wp2
  go_ret
  exact ⟨rfl, rfl⟩

end Go.Proofs.YtpfjcfhgckpjmaaGreatDoor
