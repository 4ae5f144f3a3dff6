/- Walks: the square root; narrowing. -/
import Derived.Test.YtigcnipgmjmenaaA
import Derived.Test.YtigcnipgmjmenaaFs
namespace Go.Proofs.Ytigcnipgmjmenaa
open Go.Fl Go.RowKit Ieee

theorem sameNarrow (a b : Nat) {x y : Nat} (ha : Is .f64 a (widen (val .f32 x))) (hb : Is .f64 b (widen (val .f32 y))) (h : val .f32 x = val .f32 y) (w : World) :
    Calls Try.prog 19 #[.float .f64 a, .float .f64 b] w fun e w' => e = .returned (.bool true) ∧ ∃ n, w' = w.drewN n := by
  rw [h] at ha
  exact sameFloat a b _ ha hb w

theorem narrow105 (b : Nat) (hok : NarrowOk (val .f64 b)) (w : World) : Calls Try.prog 105 #[.float .f64 b] w fun e w' => ∃ r n, e = .returned (.float .f32 r) ∧ Is .f32 r (narrow (val .f64 b)) ∧ w' = w.drewN n := by
  have H := Lib.hid hok
  clear hok
  go_enter Try.func105, Try.ntmps105
  go_wp2_with (refine wpList_narrow _ _ _ rfl rfl _ rfl (by kernel_rfl) (by kernel_rfl) H.out ?_; intro r n hr)
  go_ret
  exact ⟨_, _, rfl, hr, rfl⟩

theorem call108 (args : Array Value) (w : World) : (callFunc 108 args).run Try.prog w = ((Extern.MathSqrt.sqrt args).run Try.prog w).andThen fun v w' => .ok (.value v) w' :=
  run_callFunc_extern Try.func108 (by kernel_rfl) (by kernel_rfl) (by kernel_rfl) (by kernel_rfl) args w

theorem sqrt_open (x : Nat) : Extern.MathSqrt.sqrt #[.float .f64 x] = (match FloatKind.f64.format.sqrt x with | some r => (pure (.float .f64 r) : Sem Value) | none => do pure (.float .f64 (← choose (.nanBits .f64 x x)))) := rfl

theorem sqrt79 (x : Nat) (w : World) : Calls Try.prog 79 #[.float .f64 x] w fun e w' => ∃ r n, e = .returned (.float .f64 r) ∧ Is .f64 r (fsqrt (val .f64 x)) ∧ w' = w.drewN n := by
  cases h : double.sqrt x with
  | some r =>
    have hc : ∀ w, (callFunc 108 #[.float .f64 x]).run Try.prog w = .ok (.value (.float .f64 r)) w := fun w => by
      have h' : FloatKind.f64.format.sqrt x = some r := h
      rw [call108, sqrt_open, h']
      simp
    have hv : Is .f64 r (fsqrt (val .f64 x)) := by rw [← sqrt_val, h]; exact sqrt_is h
    have HV := Lib.hid hv
    clear h hv
    go_enter Try.func79, Try.ntmps79
    go_wp2
    go_ret
    exact ⟨_, 0, rfl, HV.out, rfl⟩
  | none =>
    have hc : ∀ w, (callFunc 108 #[.float .f64 x]).run Try.prog w = .ok (.value (.float .f64 ((Question.nanBits .f64 x x).cut (w.tape w.drawn (.nanBits .f64 x x))))) w.drew := fun w => by
      have h' : FloatKind.f64.format.sqrt x = none := h
      rw [call108, sqrt_open, h']
      simp [forced_nanBits]
    have hv : fsqrt (val .f64 x) = none := by rw [← sqrt_val, h]
    have HV := Lib.hid hv
    clear h hv
    go_enter Try.func79, Try.ntmps79
    go_wp2
    go_ret
    exact ⟨_, 1, rfl, by rw [HV.out]; exact nan_cut _ _ _ (.inl ⟨_, _, rfl⟩), rfl⟩

def rootV (b : Nat) : Option Nat := narrow (fsqrt (widen (val .f32 b)))

theorem spec78 (b : Nat) (w : World) : Calls Try.prog 78 #[.float .f32 b] w fun e w' => ∃ r n, e = .returned (.float .f32 r) ∧ Is .f32 r (rootV b) ∧ w' = w.drewN n := by
  have HN := Lib.hid (root_narrow b)
  go_enter Try.func78, Try.ntmps78
  go_wp2_with (first | (refine wpList_widen _ _ _ rfl rfl _ rfl (by kernel_rfl) (by kernel_rfl) ?_; intro r n hr) | (go_at_call 79; refine (sqrt79 _ _).mono ?_; rintro e w' ⟨r2, n2, rfl, hr2, rfl⟩) | (go_at_call 105; refine (narrow105 _ (by rw [hr2.1, hr.1]; exact HN.out) _).mono ?_; rintro e w' ⟨r3, n3, rfl, hr3, rfl⟩))
  go_ret
  exact ⟨_, _, rfl, by rw [hr2.1, hr.1] at hr3; exact hr3, rfl⟩

theorem spec36 (b : Nat) (w : World) : Calls Try.prog 36 #[.float .f32 b] w fun e w' => ∃ r n, e = .returned (.float .f32 r) ∧ Is .f32 r (rootV b) ∧ w' = w.drewN n := by
  go_enter Try.func36, Try.ntmps36
  go_wp2_with (go_at_call 78; refine (spec78 _ _).mono ?_; rintro e w' ⟨r, n, rfl, hr, rfl⟩)
  go_ret
  exact ⟨_, _, rfl, hr, rfl⟩

theorem impl37 (b : Nat) (w : World) : Calls Try.prog 37 #[.float .f32 b] w fun e w' => ∃ r n, e = .returned (.float .f32 r) ∧ Is .f32 r (rootV b) ∧ w' = w.drewN n := by
  have HN := Lib.hid (root_narrow b)
  go_enter Try.func37, Try.ntmps37
  go_wp2_with (first | (refine wpList_widen _ _ _ rfl rfl _ rfl (by kernel_rfl) (by kernel_rfl) ?_; intro r n hr) | (go_at_call 79; refine (sqrt79 _ _).mono ?_; rintro e w' ⟨r2, n2, rfl, hr2, rfl⟩) | (refine wpList_narrow _ _ _ rfl rfl _ rfl (by kernel_rfl) (by kernel_rfl) (by rw [hr2.1, hr.1]; exact HN.out) ?_; intro r3 n3 hr3))
  go_ret
  exact ⟨_, _, rfl, by rw [hr2.1, hr.1] at hr3; exact hr3, rfl⟩

theorem rootWalk (a0 : Nat) (w : World) (_w0 : (Lit.float .f32 a0).wf = true) :
    Calls Try.prog 10 #[.float .f32 a0] w fun e w' => e = .returned (.bool true) ∧ Below w.heap.size w w' := by
  clear _w0
  go_enter Try.func10, Try.ntmps10
  go_wp2_with (first | (go_at_call 36; refine (spec36 _ _).mono ?_; rintro e w' ⟨rW, nW, rfl, hW, rfl⟩) | (go_at_call 37; refine (impl37 _ _).mono ?_; rintro e w' ⟨rG, nG, rfl, hG, rfl⟩) | (refine wpList_widen _ _ _ rfl rfl _ rfl (by kernel_rfl) (by kernel_rfl) ?_; intro r n hr) | (go_at_call 19; refine (sameNarrow _ _ ‹_› ‹_› (hG.1.trans hW.1.symm) _).mono ?_; rintro e w' ⟨rfl, n, rfl⟩))
  go_ret
  exact ⟨rfl, below_drewN (Below.refl _ _) _⟩
end Go.Proofs.Ytigcnipgmjmenaa
