/- Walks: two numbers are the same; a number out of its bits. -/
import Derived.Test.YtigcnipgmjmenaaChecked
import Derived.Test.YtigcnipgmjmenaaFl
import Derived.Test.YtigcnipgmjmenaaFb
import Derived.WalkSmall
import Derived.Below
import Derived.Outline
import Derived.Lib.Hide
namespace Go.Proofs.Ytigcnipgmjmenaa
open Go.Fl Go.RowKit Ieee

theorem lt32 {b : Nat} (h : (Lit.float .f32 b).wf = true) : b < 4294967296 := by simpa [Lit.wf] using h
theorem lt64 {b : Nat} (h : (Lit.float .f64 b).wf = true) : b < 18446744073709551616 := by simpa [Lit.wf] using h

theorem sameNaN (a b : Nat) (ha : Is .f64 a none) (hb : Is .f64 b none) (w : World) : Calls Try.prog 19 #[.float .f64 a, .float .f64 b] w fun e w' => e = .returned (.bool true) ∧ ∃ n, w' = w.drewN n := by
  have oa := neq_self .f64 a
  have ob := neq_self .f64 b
  rw [ha.none] at oa
  rw [hb.none] at ob
  clear ha hb
  go_enter Try.func19, Try.ntmps19
  go_wp2
  go_ret
  exact ⟨rfl, 0, rfl⟩

theorem sameNum (a : Nat) (ha : FloatKind.f64.format.nan a = false) (w : World) : Calls Try.prog 19 #[.float .f64 a, .float .f64 a] w fun e w' => e = .returned (.bool true) ∧ ∃ n, w' = w.drewN n := by
  have oa := neq_self .f64 a
  have oe : (FloatKind.f64.format.order a a == some .eq) = true := by
    have := oa
    rw [ha] at this
    simpa using this
  rw [ha] at oa
  clear ha
  cases hz : (FloatKind.f64.format.order a 0 == some .eq) with
  | false =>
    go_enter Try.func19, Try.ntmps19
    go_wp2
    go_ret
    exact ⟨rfl, 0, rfl⟩
  | true =>
    go_enter Try.func19, Try.ntmps19
    go_wp2_with (refine wpList_farith _ _ _ _ _ rfl rfl rfl _ _ _ rfl rfl ?_; intro r n hr)
    go_ret
    rename_i r1 n1 h1
    refine ⟨?_, _, rfl⟩
    show Ending.returned (Value.bool ((FloatKind.f64.format.order r1 0 == some .gt) == (FloatKind.f64.format.order r 0 == some .gt))) = _
    rw [h1.same_order hr, beq_self_eq_true]

theorem sameFloat (a b : Nat) (v : Option Nat) (ha : Is .f64 a v) (hb : Is .f64 b v) (w : World) : Calls Try.prog 19 #[.float .f64 a, .float .f64 b] w fun e w' => e = .returned (.bool true) ∧ ∃ n, w' = w.drewN n := by
  cases v with
  | none => exact sameNaN a b ha hb w
  | some x =>
    obtain ⟨rfl, hn⟩ := ha.some
    obtain ⟨rfl, -⟩ := hb.some
    exact sameNum b hn w

theorem call63 (args : Array Value) (w : World) : (callFunc 63 args).run Try.prog w = ((Extern.MathFloatBits.float32frombits args).run Try.prog w).andThen fun v w' => .ok (.value v) w' :=
  run_callFunc_extern Try.func63 (by kernel_rfl) (by kernel_rfl) (by kernel_rfl) (by kernel_rfl) args w
theorem from63 (n : Int) (w : World) : (callFunc 63 #[.int .u32 n]).run Try.prog w = .ok (.value (.float .f32 n.toNat)) w := by rw [call63]; rfl

theorem specFrom (n : Int) (h0 : 0 ≤ n) (h1 : n ≤ 4294967295) (w : World) : Calls Try.prog 61 #[.int .i64 n] w fun e w' => e = .returned (.float .f32 n.toNat) ∧ w = w' := by
  have hc := fun n w => from63 n w
  go_enter Try.func61, Try.ntmps61
  go_wp2
  go_ret
  exact ⟨rfl, rfl⟩

theorem specFromBits (n : Int) (w : World) : Calls Try.prog 17 #[.int .i64 n] w fun e w' => (e = .returned (.tuple #[.float .f32 (if 0 ≤ n ∧ n ≤ 4294967295 then n.toNat else 0), .bool (decide (0 ≤ n ∧ n ≤ 4294967295))])) ∧ w = w' := by
  by_cases h0 : 0 ≤ n
  · by_cases h1 : n ≤ 4294967295
    · rw [if_pos ⟨h0, h1⟩, decide_eq_true (show 0 ≤ n ∧ n ≤ 4294967295 from ⟨h0, h1⟩)]
      go_enter Try.func17, Try.ntmps17
      go_wp2_with (first | (go_at_call 61; refine (specFrom _ h0 h1 _).mono ?_; rintro e w' ⟨rfl, rfl⟩) | go_in)
      go_ret2
      exact ⟨rfl, rfl⟩
    · rw [if_neg (fun h => h1 h.2), decide_eq_false (fun h => h1 h.2)]
      go_enter Try.func17, Try.ntmps17
      go_wp2_with (first | (go_at_call 61; fail) | go_in)
      go_ret2
      exact ⟨rfl, rfl⟩
  · rw [if_neg (fun h => h0 h.1), decide_eq_false (fun h => h0 h.1)]
    go_enter Try.func17, Try.ntmps17
    go_wp2_with (first | (go_at_call 61; fail) | go_in)
    go_ret2
    exact ⟨rfl, rfl⟩

theorem implFromBits (n : Int) (w : World) : Calls Try.prog 18 #[.int .i64 n] w fun e w' => (e = .returned (.tuple #[.float .f32 (if 0 ≤ n ∧ n ≤ 4294967295 then n.toNat else 0), .bool (decide (0 ≤ n ∧ n ≤ 4294967295))])) ∧ w = w' := by
  have hc := fun n w => from63 n w
  by_cases h0 : 0 ≤ n
  · by_cases h1 : n ≤ 4294967295
    · rw [if_pos ⟨h0, h1⟩, decide_eq_true (show 0 ≤ n ∧ n ≤ 4294967295 from ⟨h0, h1⟩)]
      go_enter Try.func18, Try.ntmps18
      go_wp2
      go_ret2
      exact ⟨rfl, rfl⟩
    · rw [if_neg (fun h => h1 h.2), decide_eq_false (fun h => h1 h.2)]
      go_enter Try.func18, Try.ntmps18
      go_wp2
      go_ret2
      exact ⟨rfl, rfl⟩
  · rw [if_neg (fun h => h0 h.1), decide_eq_false (fun h => h0 h.1)]
    go_enter Try.func18, Try.ntmps18
    go_wp2
    go_ret2
    exact ⟨rfl, rfl⟩

theorem fromBitsWalk (a0 : Int) (w : World) (_w0 : (Lit.int .i64 a0).wf = true) :
    Calls Try.prog 3 #[.int .i64 a0] w fun e w' => e = .returned (.bool true) ∧ Below w.heap.size w w' := by
  obtain ⟨x, hx⟩ : ∃ x, x = if 0 ≤ a0 ∧ a0 ≤ 4294967295 then a0.toNat else 0 := ⟨_, rfl⟩
  obtain ⟨d, hd⟩ : ∃ d, d = decide (0 ≤ a0 ∧ a0 ≤ 4294967295) := ⟨_, rfl⟩
  have c1 := fun w => specFromBits a0 w
  have c2 := fun w => implFromBits a0 w
  rw [← hx, ← hd] at c1 c2
  have C1 := Lib.hid c1
  have C2 := Lib.hid c2
  clear c1 c2 hx hd
  go_enter Try.func3, Try.ntmps3
  go_wp2_with (first | (go_at_call 17; refine (C1.out _).mono ?_; rintro e w' ⟨rfl, rfl⟩) | (go_at_call 18; refine (C2.out _).mono ?_; rintro e w' ⟨rfl, rfl⟩) | (refine wpList_widen _ _ _ rfl rfl _ rfl (by kernel_rfl) (by kernel_rfl) ?_; intro r n hr) | (go_at_call 19; refine (sameFloat _ _ _ ‹_› ‹_› _).mono ?_; rintro e w' ⟨rfl, n, rfl⟩))
  go_ret
  exact ⟨rfl, below_drewN (Below.refl _ _) _⟩
end Go.Proofs.Ytigcnipgmjmenaa
