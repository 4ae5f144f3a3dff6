/- Plain laws on the bits of numbers: subnormal, sign, the same. No program in sight. -/
import Derived.Test.YtpfjcfhgckpjmaaGreatDoorFl
set_option exponentiation.threshold 3000
namespace Go.Fl
open Ieee
theorem bits_andNot (b : Nat) (hb : b < 18446744073709551616) : (bits .andNot .u64 (b : Int) 9223372036854775808).toNat = b % 9223372036854775808 := by
  have e : (BitVec.ofInt 64 (b : Int) &&& ~~~(BitVec.ofInt 64 9223372036854775808)).toNat = b % 9223372036854775808 := by
    have h2 : ~~~(BitVec.ofInt 64 9223372036854775808) = BitVec.ofNat 64 (2 ^ 63 - 1) := by decide
    have h1 : BitVec.ofInt 64 (b : Int) = BitVec.ofNat 64 b := BitVec.ofInt_natCast ..
    rw [h2, h1, BitVec.toNat_and, BitVec.toNat_ofNat, BitVec.toNat_ofNat, Nat.mod_eq_of_lt hb]
    exact Nat.and_two_pow_sub_one_eq_mod b 63
  show (IntKind.u64.wrap ((BitVec.ofInt 64 (b : Int) &&& ~~~(BitVec.ofInt 64 9223372036854775808)).toNat : Int)).toNat = _
  rw [e]
  have : b % 9223372036854775808 < 18446744073709551616 := by omega
  generalize b % 9223372036854775808 = m at this
  rw [IntKind.wrap_u64]
  omega

theorem wrap_neg (b : Nat) (hb : b < 18446744073709551616) : decide (Go.RowKit.wrap64 (b : Int) < 0) = decide (9223372036854775808 ≤ b) := by
  rw [decide_eq_decide]
  unfold Go.RowKit.wrap64
  omega

theorem bits_exp (n : Nat) (hn : n < 4294967296) : bits .and .i64 (n : Int) 2139095040 = ((n / 8388608 % 256 * 8388608 : Nat) : Int) := by
  have e : (BitVec.ofInt 64 (n : Int) &&& BitVec.ofInt 64 2139095040).toNat = n / 8388608 % 256 * 8388608 := by
    have h1 : BitVec.ofInt 64 (n : Int) = BitVec.ofNat 64 n := BitVec.ofInt_natCast ..
    have h2 : BitVec.ofInt 64 2139095040 = BitVec.ofNat 64 2139095040 := by decide
    rw [h1, h2, BitVec.toNat_and, BitVec.toNat_ofNat, BitVec.toNat_ofNat, Nat.mod_eq_of_lt (by omega), Nat.mod_eq_of_lt (by decide)]
    have h3 : (2139095040 : Nat) = (2 ^ 8 - 1) <<< 23 := by decide
    have h4 : n / 8388608 % 256 = (n >>> 23) &&& (2 ^ 8 - 1) := by rw [Nat.and_two_pow_sub_one_eq_mod, Nat.shiftRight_eq_div_pow]
    rw [h4, h3]
    have h5 : ∀ x : Nat, x * 8388608 = x <<< 23 := fun x => by rw [Nat.shiftLeft_eq]
    rw [h5]
    apply Nat.eq_of_testBit_eq
    intro i
    simp only [Nat.testBit_and, Nat.testBit_shiftLeft, Nat.testBit_shiftRight]
    by_cases h : 23 ≤ i
    · simp [h]
    · simp [h]
  show IntKind.i64.wrap ((BitVec.ofInt 64 (n : Int) &&& BitVec.ofInt 64 2139095040).toNat : Int) = _
  rw [e, IntKind.wrap_i64]
  have : n / 8388608 % 256 * 8388608 < 4294967296 := by omega
  generalize n / 8388608 % 256 * 8388608 = m at this
  unfold Go.RowKit.wrap64 at *
  omega

theorem isNeg_dbl (r : Nat) (h : r < 18446744073709551616) : double.isNeg r = decide (9223372036854775808 ≤ r) := by
  unfold Format.isNeg
  show (r / 9223372036854775808 % 2 == 1) = _
  by_cases hr : 9223372036854775808 ≤ r
  · have : r / 9223372036854775808 % 2 = 1 := by omega
    rw [this]; simp [hr]
  · have : r / 9223372036854775808 % 2 = 0 := by omega
    rw [this]; simp [hr]

theorem rungOf_dbl (r : Nat) : double.rungOf r = r % 9223372036854775808 := rfl
theorem rungOf_sgl (r : Nat) : single.rungOf r = r % 2147483648 := rfl

/-- A single that is no NaN, as a double. -/
theorem widen_some {b : Nat} (hn : single.nan b = false) : ∃ rd, widen (.some b) = .some (double.word (single.isNeg b) rd) ∧ rd ≤ double.infRung ∧
    (single.rungOf b < single.infRung → double.units rd = single.units (single.rungOf b) * 2 ^ 925) ∧ (single.rungOf b = single.infRung → rd = double.infRung) := by
  by_cases hf : single.rungOf b < single.infRung
  · obtain ⟨rd, h1, h2, h3⟩ := widen_word hf
    exact ⟨rd, by unfold widen; rw [Option.map_some, h3], Nat.le_of_lt h1, fun _ => h2, fun h => by omega⟩
  · have hi : single.rungOf b = single.infRung := by
      rw [single.nan_iff (by decide)] at hn
      have : single.rungOf b ≤ single.infRung := by simpa using hn
      omega
    refine ⟨double.infRung, ?_, Nat.le_refl _, fun h => absurd h hf, fun _ => rfl⟩
    unfold widen
    rw [Option.map_some, single.read_inf (by decide) hi]
    rfl

theorem widen_neg {b r : Nat} (hn : single.nan b = false) (h : Is .f64 r (widen (.some b))) : double.isNeg r = single.isNeg b := by
  obtain ⟨rd, h1, h2, -, -⟩ := widen_some hn
  rw [h1] at h
  have := double.infRung_lt
  rw [h.some.1]
  exact double.isNeg_word _ (by omega)

/-- Is a single subnormal or zero, by its exponent field? -/
def lowB (b : Nat) : Bool := !single.nan b && decide (single.rungOf b < 8388608)

theorem low_spec {b : Nat} (hb : b < 4294967296) : (bits .and .i64 (bitsV (val .f32 b)) 2139095040 == 0) = lowB b := by
  unfold lowB
  by_cases hn : single.nan b = true
  · rw [val_nan (k := .f32) hn, hn]
    show (bits .and .i64 2143289344 2139095040 == 0) = (false && _)
    rw [Bool.false_and]
    decide +kernel
  · have hn' : single.nan b = false := by simpa using hn
    rw [val_num (k := .f32) hn', hn']
    show (bits .and .i64 (b : Int) 2139095040 == 0) = _
    rw [bits_exp b hb, rungOf_sgl]
    rw [Bool.eq_iff_iff]
    simp
    omega

theorem abs_sv (r : Nat) : double.sv (r % 9223372036854775808) = (double.units (double.rungOf r) : Int) ∧ double.nan (r % 9223372036854775808) = double.nan r := by
  have h1 : double.rungOf (r % 9223372036854775808) = double.rungOf r := by rw [rungOf_dbl, rungOf_dbl, Nat.mod_mod]
  have h2 : double.isNeg (r % 9223372036854775808) = false := by
    rw [isNeg_dbl _ (by omega)]; simp; omega
  refine ⟨?_, ?_⟩
  · unfold Format.sv; rw [h1, h2]; rfl
  · rw [double.nan_iff (by decide), double.nan_iff (by decide), h1]

theorem lt_no {c : Ordering} (h : c ≠ .lt) : (some c == some Ordering.lt) = false := by cases c <;> first | rfl | exact absurd rfl h

theorem low_impl {b r : Nat} (h : Is .f64 r (widen (val .f32 b))) : (FloatKind.f64.format.order (r % 9223372036854775808) 4039728865751334912 == some .lt) = lowB b := by
  show (double.order (r % 9223372036854775808) 4039728865751334912 == some .lt) = _
  obtain ⟨hsv, hnan⟩ := abs_sv r
  unfold lowB
  by_cases hn : single.nan b = true
  · rw [val_nan (k := .f32) hn] at h
    have : double.nan r = true := h.none
    rw [double.order_nan_left (by rw [hnan, this]), hn]
    rfl
  · have hn' : single.nan b = false := by simpa using hn
    rw [val_num (k := .f32) hn'] at h
    obtain ⟨rd, h1, h2, h3, h4⟩ := widen_some hn'
    rw [h1] at h
    have hr := h.some
    have hlt := double.infRung_lt
    have hrung : double.rungOf r = rd := by rw [hr.1]; exact double.rungOf_word _ (by omega)
    have hc : double.sv 4039728865751334912 = ((2 ^ 948 : Nat) : Int) := by decide +kernel
    have hnc : double.nan 4039728865751334912 = false := by decide +kernel
    have hnr : double.nan r = false := hr.2
    rw [double.order_sv (by decide) (by rw [hnan]; exact hnr) hnc, hsv, hc, hn', hrung]
    have hk : ∀ x : Nat, single.units x < 8388608 ↔ x < 8388608 := by
      intro x
      have e : single.units 8388608 = 8388608 := by decide +kernel
      have := single.units_lt_iff (a := x) (b := 8388608)
      rwa [e] at this
    by_cases hf : single.rungOf b < single.infRung
    · rw [h3 hf]
      have e : (2 : Nat) ^ 948 = 8388608 * 2 ^ 925 := by rw [show (8388608 : Nat) = 2 ^ 23 from rfl, ← Nat.pow_add]
      have hp := Nat.two_pow_pos 925
      by_cases hlow : single.rungOf b < 8388608
      · have : single.units (single.rungOf b) * 2 ^ 925 < 2 ^ 948 := by
          rw [e]; exact Nat.mul_lt_mul_of_pos_right ((hk _).2 hlow) hp
        rw [(Int.compare_eq_lt).2 (by exact_mod_cast this)]
        simp [hlow]
      · have : 2 ^ 948 ≤ single.units (single.rungOf b) * 2 ^ 925 := by
          rw [e]; exact Nat.mul_le_mul_right _ (by have := hk (single.rungOf b); omega)
        have hne : ¬ ((single.units (single.rungOf b) * 2 ^ 925 : Nat) : Int) < ((2 ^ 948 : Nat) : Int) := by
          have : ((2 ^ 948 : Nat) : Int) ≤ ((single.units (single.rungOf b) * 2 ^ 925 : Nat) : Int) := by exact_mod_cast this
          omega
        have hcmp : compare ((single.units (single.rungOf b) * 2 ^ 925 : Nat) : Int) ((2 ^ 948 : Nat) : Int) ≠ .lt := fun hc => hne ((Int.compare_eq_lt).1 hc)
        rw [lt_no hcmp]; simp only [hlow, decide_false, Bool.and_false]
    · have hi : single.rungOf b = single.infRung := by
        rw [single.nan_iff (by decide)] at hn'
        have : single.rungOf b ≤ single.infRung := by simpa using hn'
        omega
      rw [h4 hi, double.units_infRung (by decide)]
      have hlow : ¬ single.rungOf b < 8388608 := by rw [hi]; decide
      have hge : 2 ^ 948 ≤ 2 ^ (double.fractionBits + (2 ^ double.exponentBits - 2)) := Nat.pow_le_pow_right (by decide) (by decide)
      have hcmp : compare ((2 ^ (double.fractionBits + (2 ^ double.exponentBits - 2)) : Nat) : Int) ((2 ^ 948 : Nat) : Int) ≠ .lt := by
        intro hc
        have h1 := (Int.compare_eq_lt).1 hc
        have h2 : ((2 ^ 948 : Nat) : Int) ≤ ((2 ^ (double.fractionBits + (2 ^ double.exponentBits - 2)) : Nat) : Int) := by exact_mod_cast hge
        omega
      rw [lt_no hcmp]; simp only [hlow, decide_false, Bool.and_false]

/-- Two singles are the same: as their bits say. -/
theorem same_bits {a b : Nat} (ha : a < 4294967296) (hb : b < 4294967296) (hna : single.nan a = false) (hnb : single.nan b = false) :
    ((FloatKind.f32.format.order a b == some .eq) && (single.isNeg a == single.isNeg b)) = (bitsV (val .f32 a) == bitsV (val .f32 b)) := by
  rw [val_num (k := .f32) hna, val_num (k := .f32) hnb]
  show ((single.order a b == some .eq) && _) = ((a : Int) == (b : Int))
  rw [single.order_sv (by decide) hna hnb]
  by_cases h : a = b
  · subst h; simp
  · have hne : ((a : Int) == (b : Int)) = false := by simp; omega
    rw [hne]
    by_cases hs : single.isNeg a = single.isNeg b
    · have : single.sv a ≠ single.sv b := by
        intro he
        apply h
        unfold Format.sv at he
        rw [hs] at he
        have hu : single.units (single.rungOf a) = single.units (single.rungOf b) := by
          cases hb' : single.isNeg b <;> rw [hb'] at he <;> simp at he <;> omega
        have hr := single.units_inj hu
        rw [← single.word_of (b := a) ha, ← single.word_of (b := b) hb, hs, hr]
      simp [this]
    · have : (single.isNeg a == single.isNeg b) = false := by simpa using hs
      rw [this]; simp

theorem bits_nan_num {b : Nat} (hnb : single.nan b = false) : (2143289344 == (b : Int)) = false ∧ ((b : Int) == 2143289344) = false := by
  have : b ≠ 2143289344 := by
    intro h; subst h
    exact absurd hnb (by decide)
  constructor <;> simp <;> omega
end Go.Fl
