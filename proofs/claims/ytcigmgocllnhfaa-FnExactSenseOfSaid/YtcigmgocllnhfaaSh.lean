/- Shares: a count over a table's length, in single precision; two equal numbers are the same to the laws. -/
import Derived.Test.YtcigmgocllnhfaaChecked
import Derived.Test.YtcigmgocllnhfaaFl
import Derived.WalkSmall
import Derived.Below
import Derived.Outline
import Derived.Lib.Hide
import Derived.Laws.ComplexArith
import Derived.Laws.Cover2
namespace Go.Proofs.Ytcigmgocllnhfaa.Sh
open Go.Fl Go.RowKit Ieee

/-- A whole number in single precision. -/
def fn (x : Int) : Nat := floatOfInt .f32 x
def isLen (n : Nat) : Bool := n == 2 || n == 8 || n == 32 || n == 3 || n == 27 || n == 243
def qf (c n : Nat) : Nat := (floatBits .quo .f32 (fn (c : Int)) (fn (n : Int))).getD 0
def wd (b : Nat) : Nat := (floatToFloatBits .f32 b .f64).getD 0
/-- What a count c over a table of n states tells. -/
def share (c : Int) (n : Nat) : Nat := if isLen n = true ∧ 0 ≤ c ∧ c ≤ (n : Int) then qf c.toNat n else 0
theorem fn0 : fn 0 = 0 := by decide +kernel
theorem fadd0 : ∀ x : Nat, x < 244 → floatBits .add .f32 (fn (x : Int)) 1065353216 = some (fn ((x + 1 : Nat) : Int)) := by decide +kernel
def good (c n : Nat) : Bool := (floatBits .quo .f32 (fn (c : Int)) (fn (n : Int)) == some (qf c n)) && (floatToFloatBits .f32 (qf c n) .f64 == some (wd (qf c n))) && decide (wd (qf c n) < 18446744073709551616) && !(FloatKind.f64.format.nan (wd (qf c n)))
theorem good2 : ∀ c, c ≤ 2 → good c 2 = true := by decide +kernel
theorem good3 : ∀ c, c ≤ 3 → good c 3 = true := by decide +kernel
theorem good8 : ∀ c, c ≤ 8 → good c 8 = true := by decide +kernel
theorem good27 : ∀ c, c ≤ 27 → good c 27 = true := by decide +kernel
theorem good32 : ∀ c, c ≤ 32 → good c 32 = true := by decide +kernel
theorem good243 : ∀ c, c ≤ 243 → good c 243 = true := by decide +kernel
theorem isLen_iff (n : Nat) : isLen n = true ↔ n = 2 ∨ n = 8 ∨ n = 32 ∨ n = 3 ∨ n = 27 ∨ n = 243 := by
  unfold isLen; simp [Bool.or_eq_true, or_assoc]
theorem good_f (c n : Nat) (hn : isLen n = true) (hc : c ≤ n) : good c n = true := by
  rcases (isLen_iff n).mp hn with rfl | rfl | rfl | rfl | rfl | rfl
  · exact good2 c hc
  · exact good8 c hc
  · exact good32 c hc
  · exact good3 c hc
  · exact good27 c hc
  · exact good243 c hc
theorem good_parts {c n : Nat} (h : good c n = true) : floatBits .quo .f32 (fn (c : Int)) (fn (n : Int)) = some (qf c n) ∧ floatToFloatBits .f32 (qf c n) .f64 = some (wd (qf c n)) ∧ wd (qf c n) < 18446744073709551616 ∧ FloatKind.f64.format.nan (wd (qf c n)) = false := by
  unfold good at h
  simp only [Bool.and_eq_true, Bool.not_eq_true', beq_iff_eq, decide_eq_true_eq] at h
  exact ⟨h.1.1.1, h.1.1.2, h.1.2, h.2⟩
theorem zero_parts : floatToFloatBits .f32 0 .f64 = some (wd 0) ∧ wd 0 < 18446744073709551616 ∧ FloatKind.f64.format.nan (wd 0) = false := by decide +kernel
theorem share_parts (c : Int) (n : Nat) : floatToFloatBits .f32 (share c n) .f64 = some (wd (share c n)) ∧ wd (share c n) < 18446744073709551616 ∧ FloatKind.f64.format.nan (wd (share c n)) = false := by
  unfold share
  by_cases h : isLen n = true ∧ 0 ≤ c ∧ c ≤ (n : Int)
  · rw [if_pos h]
    exact (good_parts (good_f c.toNat n h.1 (by omega))).2
  · rw [if_neg h]; exact zero_parts
theorem share0 (n : Nat) : share 0 n = 0 := by
  unfold share
  by_cases h : isLen n = true ∧ (0 : Int) ≤ 0 ∧ (0 : Int) ≤ (n : Int)
  · rw [if_pos h]
    rcases (isLen_iff n).mp h.1 with rfl | rfl | rfl | rfl | rfl | rfl <;> decide +kernel
  · rw [if_neg h]
/-- One more, in single precision. -/
theorem fadd (x : Int) (h0 : 0 ≤ x) (h : x < 244) (w : World) : (binOp .add 48 (.float .f32 (fn x)) (.float .f32 1065353216)).run Try.prog w = .ok (.float .f32 (fn (wrap64 (x + 1)))) w := by
  obtain ⟨n, rfl⟩ : ∃ n : Nat, x = n := ⟨x.toNat, by omega⟩
  rw [show wrap64 ((n : Int) + 1) = ((n + 1 : Nat) : Int) by unfold wrap64; omega]
  exact run_float_arith w .add 48 .f32 _ _ _ (fadd0 n (by omega))
theorem fquo (x : Int) (n : Nat) (hn : isLen n = true) (h0 : 0 ≤ x) (h : x ≤ (n : Int)) (w : World) : (binOp .quo 48 (.float .f32 (fn x)) (.float .f32 (fn (n : Int)))).run Try.prog w = .ok (.float .f32 (share x n)) w := by
  obtain ⟨c, rfl⟩ : ∃ c : Nat, x = c := ⟨x.toNat, by omega⟩
  have e : share (c : Int) n = qf c n := by unfold share; rw [if_pos ⟨hn, h0, h⟩]; rfl
  rw [e]
  exact run_float_arith w .quo 48 .f32 _ _ _ (good_parts (good_f c n hn (by omega))).1
theorem fofInt (x : Int) (w : World) : (convert 3 48 (.int .i64 x)).run Try.prog w = .ok (.float .f32 (fn x)) w := run_convert_int_float w 3 48 .i64 .f32 x (by kernel_rfl) (by kernel_rfl)
theorem fwide (c : Int) (n : Nat) (w : World) : (convert 48 52 (.float .f32 (share c n))).run Try.prog w = .ok (.float .f64 (wd (share c n))) w := run_convert_float_float w 48 52 .f32 .f64 _ _ (by kernel_rfl) (by kernel_rfl) (share_parts c n).1
/-- Two equal numbers are the same to the laws. -/
theorem sameNum (a : Nat) (ha : FloatKind.f64.format.nan a = false) (w : World) : Calls Try.prog 45 #[.float .f64 a, .float .f64 a] w fun e w' => e = .returned (.bool true) ∧ ∃ n, w' = w.drewN n := by
  have oa := neq_self .f64 a
  have oe : (FloatKind.f64.format.order a a == some .eq) = true := by
    have := oa
    rw [ha] at this
    simpa using this
  rw [ha] at oa
  clear ha
  cases hz : (FloatKind.f64.format.order a 0 == some .eq) with
  | false =>
    go_enter Try.func45, Try.ntmps45
    go_wp2
    go_ret
    exact ⟨rfl, 0, rfl⟩
  | true =>
    go_enter Try.func45, Try.ntmps45
    go_wp2_with (refine wpList_farith _ _ _ _ _ rfl rfl rfl _ _ _ rfl rfl ?_; intro r n hr)
    go_ret
    rename_i r1 n1 h1
    refine ⟨?_, _, rfl⟩
    show Ending.returned (Value.bool ((FloatKind.f64.format.order r1 0 == some .gt) == (FloatKind.f64.format.order r 0 == some .gt))) = _
    rw [h1.same_order hr, beq_self_eq_true]
theorem sameShare (c1 c2 : Int) (n1 n2 : Nat) (hc : c1 = c2) (hn : n1 = n2) (w : World) : Calls Try.prog 45 #[.float .f64 (wd (share c1 n1)), .float .f64 (wd (share c2 n2))] w fun e w' => e = .returned (.bool true) ∧ ∃ n, w' = w.drewN n := by
  subst hc; subst hn
  exact sameNum _ (share_parts c1 n1).2.2 w
end Go.Proofs.Ytcigmgocllnhfaa.Sh
