/- Shares of changes: one count over another, in single precision. -/
import Derived.Test.YtcigmgocllnhfaaSh
namespace Go.Proofs.Ytcigmgocllnhfaa.Sg
open Go.Fl Go.RowKit Ieee Go.Proofs.Ytcigmgocllnhfaa.Sh

def isAll (n : Nat) : Bool := n == 2 || n == 24 || n == 160 || n == 6 || n == 162 || n == 2430
def okCA (c a : Int) : Bool := isAll a.toNat && decide (0 ≤ c) && decide (c ≤ a)
/-- Two counts in one number. -/
def share2 (r : Int) : Nat := if okCA (r / 65536) (r % 65536) = true then qf (r / 65536).toNat (r % 65536).toNat else 0
theorem good2 : ∀ c, c ≤ 2 → good c 2 = true := by decide +kernel
theorem good6 : ∀ c, c ≤ 6 → good c 6 = true := by decide +kernel
theorem good24 : ∀ c, c ≤ 24 → good c 24 = true := by decide +kernel
theorem good160 : ∀ c, c ≤ 160 → good c 160 = true := by decide +kernel
theorem good162 : ∀ c, c ≤ 162 → good c 162 = true := by decide +kernel
set_option maxRecDepth 100000 in
theorem good2430 : ∀ c, c ≤ 2430 → good c 2430 = true := by decide +kernel
theorem isAll_iff (n : Nat) : isAll n = true ↔ n = 2 ∨ n = 24 ∨ n = 160 ∨ n = 6 ∨ n = 162 ∨ n = 2430 := by
  unfold isAll; simp [Bool.or_eq_true, or_assoc]
theorem good_f2 (c n : Nat) (hn : isAll n = true) (hc : c ≤ n) : good c n = true := by
  rcases (isAll_iff n).mp hn with rfl | rfl | rfl | rfl | rfl | rfl
  · exact good2 c hc
  · exact good24 c hc
  · exact good160 c hc
  · exact good6 c hc
  · exact good162 c hc
  · exact good2430 c hc
theorem okCA_parts {c a : Int} (h : okCA c a = true) : isAll a.toNat = true ∧ 0 ≤ c ∧ c ≤ a := by
  unfold okCA at h
  simp only [Bool.and_eq_true, decide_eq_true_eq] at h
  exact ⟨h.1.1, h.1.2, h.2⟩
theorem share2_parts (r : Int) : floatToFloatBits .f32 (share2 r) .f64 = some (wd (share2 r)) ∧ wd (share2 r) < 18446744073709551616 ∧ FloatKind.f64.format.nan (wd (share2 r)) = false := by
  unfold share2
  by_cases h : okCA (r / 65536) (r % 65536) = true
  · rw [if_pos h]
    obtain ⟨h1, h2, h3⟩ := okCA_parts h
    exact (good_parts (good_f2 _ _ h1 (by omega))).2
  · rw [if_neg h]; exact zero_parts
theorem share2_0 : share2 0 = 0 := by
  unfold share2
  rw [if_neg (by decide)]
theorem fquo2 (c a : Int) (h : okCA c a = true) (w : World) : (binOp .quo 48 (.float .f32 (fn c)) (.float .f32 (fn a))).run Try.prog w = .ok (.float .f32 (share2 (wrap64 (wrap64 (c * 65536) + a)))) w := by
  obtain ⟨h1, h2, h3⟩ := okCA_parts h
  obtain ⟨n, rfl⟩ : ∃ n : Nat, a = n := ⟨a.toNat, by omega⟩
  obtain ⟨m, rfl⟩ : ∃ m : Nat, c = m := ⟨c.toNat, by omega⟩
  have h4 : n ≤ 2430 := by rcases (isAll_iff n).mp h1 with e | e | e | e | e | e <;> omega
  have e : wrap64 (wrap64 ((m : Int) * 65536) + (n : Int)) = (m : Int) * 65536 + n := by unfold wrap64; omega
  have e1 : ((m : Int) * 65536 + n) / 65536 = m := by omega
  have e2 : ((m : Int) * 65536 + n) % 65536 = n := by omega
  have e3 : share2 ((m : Int) * 65536 + n) = qf m n := by unfold share2; rw [e1, e2, if_pos h]; rfl
  rw [e, e3]
  exact run_float_arith w .quo 48 .f32 _ _ _ (good_parts (good_f2 m n h1 (by omega))).1
theorem fofInt2 (x : Int) (w : World) : (convert 2 48 (.int .i64 x)).run Try.prog w = .ok (.float .f32 (fn x)) w := run_convert_int_float w 2 48 .i64 .f32 x (by kernel_rfl) (by kernel_rfl)
theorem fwide2 (r : Int) (w : World) : (convert 48 52 (.float .f32 (share2 r))).run Try.prog w = .ok (.float .f64 (wd (share2 r))) w := run_convert_float_float w 48 52 .f32 .f64 _ _ (by kernel_rfl) (by kernel_rfl) (share2_parts r).1
theorem sameShare2 (r1 r2 : Int) (hr : r1 = r2) (w : World) : Calls Try.prog 45 #[.float .f64 (wd (share2 r1)), .float .f64 (wd (share2 r2))] w fun e w' => e = .returned (.bool true) ∧ ∃ n, w' = w.drewN n := by
  subst hr
  exact sameNum _ (share2_parts r1).2.2 w
end Go.Proofs.Ytcigmgocllnhfaa.Sg
