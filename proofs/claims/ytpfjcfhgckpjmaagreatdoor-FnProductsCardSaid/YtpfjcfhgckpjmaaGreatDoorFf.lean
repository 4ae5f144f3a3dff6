/- Plain laws of flushing: the sign of a number as a zero. No program in sight. -/
import Derived.Test.YtpfjcfhgckpjmaaGreatDoorFb
import Derived.Test.YtpfjcfhgckpjmaaGreatDoorIe3
set_option exponentiation.threshold 3000
namespace Go.Fl
open Ieee

def signZero (b : Nat) : Nat := if 2147483648 ≤ b then 2147483648 else 0
def flushV (b : Nat) : Option Nat := if lowB b then .some (signZero b) else val .f32 b

theorem and_top (n : Nat) (hn : n < 18446744073709551616) (e : Nat) (he : e < 64) :
    (BitVec.ofInt 64 (n : Int) &&& BitVec.ofInt 64 ((2 ^ e : Nat) : Int)).toNat = if n.testBit e then 2 ^ e else 0 := by
  have h1 : BitVec.ofInt 64 (n : Int) = BitVec.ofNat 64 n := BitVec.ofInt_natCast ..
  have h2 : BitVec.ofInt 64 ((2 ^ e : Nat) : Int) = BitVec.ofNat 64 (2 ^ e) := BitVec.ofInt_natCast ..
  have h3 : 2 ^ e < 2 ^ 64 := Nat.pow_lt_pow_right (by decide) he
  rw [h1, h2, BitVec.toNat_and, BitVec.toNat_ofNat, BitVec.toNat_ofNat, Nat.mod_eq_of_lt hn, Nat.mod_eq_of_lt h3]
  apply Nat.eq_of_testBit_eq
  intro i
  rw [Nat.testBit_and, Nat.testBit_two_pow]
  by_cases hie : e = i
  · subst hie
    cases n.testBit e <;> simp
  · have : decide (e = i) = false := by simpa using hie
    rw [this, Bool.and_false]
    split
    · rw [Nat.testBit_two_pow, this]
    · rw [Nat.zero_testBit]

theorem test31 (b : Nat) (hb : b < 4294967296) : b.testBit 31 = decide (2147483648 ≤ b) := by
  rw [Nat.testBit_eq_decide_div_mod_eq, decide_eq_decide]
  omega
theorem test63 (b : Nat) (hb : b < 18446744073709551616) : b.testBit 63 = decide (9223372036854775808 ≤ b) := by
  rw [Nat.testBit_eq_decide_div_mod_eq, decide_eq_decide]
  omega

theorem sign_spec (b : Nat) (hb : b < 4294967296) : bits .and .i64 (b : Int) 2147483648 = (signZero b : Int) := by
  have h := and_top b (by omega) 31 (by omega)
  rw [test31 b hb] at h
  show IntKind.i64.wrap ((BitVec.ofInt 64 (b : Int) &&& BitVec.ofInt 64 2147483648).toNat : Int) = _
  have h' : (BitVec.ofInt 64 (b : Int) &&& BitVec.ofInt 64 2147483648).toNat = signZero b := by
    rw [show BitVec.ofInt 64 2147483648 = BitVec.ofInt 64 ((2 ^ 31 : Nat) : Int) from rfl, h]
    unfold signZero
    by_cases hc : 2147483648 ≤ b <;> simp [hc]
  rw [h', IntKind.wrap_i64]
  unfold signZero
  split <;> rfl

def signZero64 (r : Nat) : Nat := if 9223372036854775808 ≤ r then 9223372036854775808 else 0

theorem copysign (r : Nat) (hr : r < 18446744073709551616) : (bits .or .u64 (bits .andNot .u64 0 9223372036854775808) (bits .and .u64 (r : Int) 9223372036854775808)).toNat = signZero64 r := by
  have h0 : bits .andNot .u64 0 9223372036854775808 = 0 := by decide +kernel
  have h := and_top r hr 63 (by omega)
  rw [test63 r hr] at h
  have h1 : bits .and .u64 (r : Int) 9223372036854775808 = (signZero64 r : Int) := by
    show IntKind.u64.wrap ((BitVec.ofInt 64 (r : Int) &&& BitVec.ofInt 64 9223372036854775808).toNat : Int) = _
    have h' : (BitVec.ofInt 64 (r : Int) &&& BitVec.ofInt 64 9223372036854775808).toNat = signZero64 r := by
      rw [show BitVec.ofInt 64 9223372036854775808 = BitVec.ofInt 64 ((2 ^ 63 : Nat) : Int) from rfl, h]
      unfold signZero64
      by_cases hc : 9223372036854775808 ≤ r <;> simp [hc]
    rw [h', IntKind.wrap_u64]
    unfold signZero64
    split <;> rfl
  rw [h0, h1]
  unfold signZero64
  split <;> decide +kernel

theorem zero_narrow (r : Nat) : NarrowOk (val .f64 (signZero64 r)) ∧ narrow (val .f64 (signZero64 r)) = .some (if 9223372036854775808 ≤ r then 2147483648 else 0) := by
  unfold signZero64
  split
  · have hv : val .f64 9223372036854775808 = .some 9223372036854775808 := by decide +kernel
    rw [hv]
    refine ⟨?_, by decide +kernel⟩
    intro b hb _
    cases hb
    decide +kernel
  · have hv : val .f64 0 = .some 0 := by decide +kernel
    rw [hv]
    refine ⟨?_, by decide +kernel⟩
    intro b hb _
    cases hb
    decide +kernel

theorem sign_widen {b r : Nat} (hb : b < 4294967296) (hl : lowB b = true) (h : Is .f64 r (widen (val .f32 b))) : (if 9223372036854775808 ≤ r then 2147483648 else 0) = signZero b := by
  unfold lowB at hl
  have hn : single.nan b = false := by
    cases hx : single.nan b with
    | false => rfl
    | true => rw [hx] at hl; cases hl
  rw [val_num (k := .f32) hn] at h
  have h1 := widen_neg hn h
  rw [isNeg_dbl r h.2] at h1
  have h2 : single.isNeg b = decide (2147483648 ≤ b) := by
    unfold Format.isNeg
    show (b / 2147483648 % 2 == 1) = _
    by_cases hr : 2147483648 ≤ b
    · have : b / 2147483648 % 2 = 1 := by omega
      rw [this]; simp [hr]
    · have : b / 2147483648 % 2 = 0 := by omega
      rw [this]; simp [hr]
  rw [h2, decide_eq_decide] at h1
  unfold signZero
  by_cases hc : 2147483648 ≤ b
  · rw [if_pos (h1.2 hc), if_pos hc]
  · rw [if_neg (fun h => hc (h1.1 h)), if_neg hc]

theorem signZero_is (b : Nat) : Is .f32 (signZero b) (.some (signZero b)) := by
  unfold signZero
  split
  · exact ⟨by decide +kernel, by decide⟩
  · exact ⟨by decide +kernel, by decide⟩

/-- A zero is its own sign. -/
theorem flush_zero {b : Nat} (hb : b < 4294967296) (h : (FloatKind.f32.format.order b 0 != some .eq) = false) : flushV b = val .f32 b := by
  have h1 : FloatKind.f32.format.order b 0 = some .eq := by simpa using h
  have h' : single.order b 0 = some .eq := h1
  have hn : single.nan b = false := by
    cases hx : single.nan b with
    | false => rfl
    | true => rw [single.order_nan_left hx] at h'; cases h'
  rw [single.order_sv (by decide) hn (by decide)] at h'
  have hsv : single.sv b = 0 := by
    have h0 : single.sv 0 = 0 := by decide +kernel
    rw [h0] at h'
    exact (Int.compare_eq_eq).1 (Option.some.inj h')
  have hu : single.units (single.rungOf b) = 0 := by
    have := single.sv_natAbs b
    rw [hsv] at this
    exact this.symm
  have hr : single.rungOf b = 0 := single.units_inj (by rw [hu, single.units_zero])
  rw [rungOf_sgl] at hr
  unfold flushV
  split
  · rw [val_num (k := .f32) hn]
    unfold signZero
    split <;> congr 1 <;> omega
  · rfl
end Go.Fl
