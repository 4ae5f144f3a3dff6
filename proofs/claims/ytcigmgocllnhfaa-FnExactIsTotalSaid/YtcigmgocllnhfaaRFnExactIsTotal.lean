/- The statement Rows.FnExactIsTotalSaid is proved: for every input laws.FnExactIsTotal returns true and its arguments read as before. No condition. -/
import Derived.Test.YtcigmgocllnhfaaRows
import Derived.Test.YtcigmgocllnhfaaHf
import Derived.WalkKit
import Derived.ProofKit
import Derived.OpenShut
import Derived.ShutString
import Derived.ChangeOld
import Derived.Below
import Derived.Laws.Cover2
import Derived.Test.YtcigmgocllnhfaaQFnExactIsTotalx5
import Derived.Test.YtcigmgocllnhfaaPureFnExactIsTotal
import Derived.Test.YtcigmgocllnhfaaOs
namespace Go.Proofs.Ytcigmgocllnhfaa.fnExactIsTotal
open Go.ChangeShapes Go.WideShapes Go.ChangeAt Go.RowKit
open Go.ChangeMaps (open_string shut_string)
open Go.Proofs.Ytcigmgocllnhfaa.Os
set_option linter.unusedVariables false

theorem own : ownKnob Try.prog.godebug = none := by kernel_rfl
theorem laidOut : laidOutB Try.prog = true := by kernel_rfl

set_option maxRecDepth 100000 in
theorem lifted (os : Os) (started : os.Started) (H : Type) (enc : TypeId × Value → H) :
    ReturnsInHanded {} Try.checked os 12 .any (Rows.fnExactIsTotalSpec.pre6 enc Try.prog Try.f12 Rows.fnExactIsTotalRow.domain false) (Rows.fnExactIsTotalSpec.post enc Try.prog Try.f12 false true false false) := by
  refine returnsInHanded_of_change (C := Try.checked) own started (by kernel_rfl) Try.func12
    (ChangeSpec.witness6 (enc := enc) (C := Try.checked) false ⟨#[], #[.agg #[.int .i64 0, .int .i64 0, .slice none 0 0]], []⟩ 8 (by kernel_rfl) (by kernel_rfl) (by kernel_rfl) (by kernel_rfl)) ?_
  intro W base args ds gs before hval0 hW hcnd _
  have hval : ∀ (j : Nat) t v, Try.f12.params[j]? = some t → args[j]? = some v → Value.okWide Try.prog W .any base t v := hval0
  have hW' := hW
  obtain ⟨p, q, hA0, hV, rfl, hfz, hnd⟩ := hW
  have hA : DataW.TrodAll enc Try.prog W 0 (fun _ => true) true Try.f12.params.toList args.toList ds p := hA0
  rw [Try.params12] at hA hval
  obtain ⟨v0, vs0, d0, ds0, p0, q0, hargs, rfl, rfl, h0, r0⟩ := trodAll_cons hA
  obtain ⟨rfl, rfl, rfl⟩ := trodAll_nil r0
  obtain rfl : args = #[v0] := by cases args; simp_all
  obtain ⟨rfl, rfl⟩ := trodVars_none hV
  have k0 := h0
  have lt0 : ∀ x ∈ p0, x.block < W.heap.size := by obtain ⟨m, hm⟩ := k0; exact DataW.trod_lt m _ _ _ hm
  obtain ⟨s0, c0, A0, l0, cap0, rfl, is0, ic0, ml0, cc0, row0⟩ := open_rule (Try.underlying37) (by kernel_rfl) (by kernel_rfl) (by kernel_rfl) Try.underlying2 Try.underlying22 ⟨rfl, rfl, rfl⟩ (hval 0 37 v0 rfl rfl) h0
  clear hA0 hval0
  obtain ⟨k, hk⟩ := Pure.FnExactIsTotal s0 c0 l0 is0 ic0 ml0
  refine (QFnExactIsTotal.laws_FnExactIsTotal.calls k s0 c0 A0 cap0 l0 true W row0 cc0 hk).mono fun e W' ⟨he, bel⟩ => ?_
  subst he
  exact ⟨_, rfl, _, _, _, [], _, [], hW', trodAll_mk1 (shut_bool Try.underlying4 _), (trodAll_cons_mk (Below.trod laidOut (by kernel_rfl) (of_decide_eq_true (by kernel_rfl)) k0 bel lt0) trodAll_mk0), rfl, bel.frame _, fun h => by cases h⟩

theorem closed : joinedFacts Try.prog 12 Try.f12 Rows.fnExactIsTotalSpec Rows.fnExactIsTotalRow = true := by
  unfold joinedFacts
  rw [Hf.enter, Hf.final, Hf.make]
  kernel_rfl

theorem wrapper : Try.f12.isWrapper Try.prog Rows.fnExactIsTotalRow.wrapper Rows.fnExactIsTotalRow.mainSum := by
  unfold Func.isWrapper; first | (rw [if_pos (by decide +kernel)]; kernel_rfl) | (rw [if_neg (by decide +kernel)]; exact ⟨rfl, rfl⟩)

theorem over : Rows.fnExactIsTotalRow.holds Try.pinned (OpenSpec.ofChange Rows.fnExactIsTotalSpec) :=
  OpenClaim.holds_of_wide 12 Try.f12 rfl rfl rfl rfl rfl rfl rfl ⟨rfl, rfl, rfl, rfl, rfl⟩ rfl rfl rfl rfl rfl (by kernel_rfl) Try.func12 closed
    (of_decide_eq_true (by kernel_rfl)) wrapper
    (fun os started H enc _ => lifted os started H enc)

theorem proved : Rows.FnExactIsTotalSaid := over
#print axioms proved
end Go.Proofs.Ytcigmgocllnhfaa.fnExactIsTotal
