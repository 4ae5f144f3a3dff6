/- Walks of the small laws on single numbers: IsFinite, Constants. -/
import Derived.Test.YtomgfpifddiioaaChecked
import Derived.Test.YtomgfpifddiioaaFl
import Derived.WalkSmall
import Derived.Below
namespace Go.Proofs.Ytomgfpifddiioaa
open Go.Fl Go.RowKit

def finB (v : Option Nat) : Bool := cmp .f32 (fop .sub .f32 v v) (val .f32 0) == some .eq

theorem implIsFinite (b : Nat) (w : World) : Calls Try.prog 12 #[.float .f32 b] w fun e w' => e = .returned (.bool (finB (val .f32 b))) ∧ ∃ n, w' = w.drewN n := by
  go_enter Try.func12, Try.ntmps12
  go_wp2_with (refine wpList_farith _ _ _ _ _ rfl rfl rfl _ _ _ rfl rfl ?_; intro r n hr)
  go_ret
  refine ⟨?_, _, rfl⟩
  rw [order_val, hr.1]; rfl

theorem specFinite (b : Nat) (w : World) : Calls Try.prog 26 #[.float .f32 b] w fun e w' => e = .returned (.bool (finB (val .f32 b))) ∧ ∃ n, w' = w.drewN n := by
  go_enter Try.func26, Try.ntmps26
  go_wp2_with (refine wpList_farith _ _ _ _ _ rfl rfl rfl _ _ _ rfl rfl ?_; intro r n hr)
  go_ret
  refine ⟨?_, _, rfl⟩
  rw [order_val, hr.1]; rfl

theorem specIsFinite (b : Nat) (w : World) : Calls Try.prog 11 #[.float .f32 b] w fun e w' => e = .returned (.bool (finB (val .f32 b))) ∧ ∃ n, w' = w.drewN n := by
  go_enter Try.func11, Try.ntmps11
  go_wp2_with (go_at_call 26; refine (specFinite _ _).mono ?_; rintro e w' ⟨rfl, n, rfl⟩)
  go_ret
  exact ⟨rfl, _, rfl⟩

theorem isFiniteWalk (a0 : Nat) (w : World) (_w0 : (Lit.float .f32 a0).wf = true) :
    Calls Try.prog 4 #[.float .f32 a0] w fun e w' => e = .returned (.bool true) ∧ Below w.heap.size w w' := by
  go_enter Try.func4, Try.ntmps4
  go_wp2_with (first | (go_at_call 11; refine (specIsFinite _ _).mono ?_; rintro e w' ⟨rfl, n, rfl⟩) | (go_at_call 12; refine (implIsFinite _ _).mono ?_; rintro e w' ⟨rfl, n, rfl⟩))
  go_ret
  exact ⟨rfl, below_drewN (Below.refl _ _) _⟩

theorem constantsWalk (w : World) :
    Calls Try.prog 3 #[] w fun e w' => e = .returned (.bool true) ∧ Below w.heap.size w w' := by
  go_enter Try.func3, Try.ntmps3
  go_wp2
  go_ret
  exact ⟨rfl, Below.refl _ _⟩
end Go.Proofs.Ytomgfpifddiioaa
