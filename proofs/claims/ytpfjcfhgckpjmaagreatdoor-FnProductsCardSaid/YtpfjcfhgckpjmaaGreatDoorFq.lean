/- Plain laws of doubles: quotients, whole parts, signs. No program in sight. -/
import Derived.Test.YtpfjcfhgckpjmaaGreatDoorFs
import Derived.Test.YtpfjcfhgckpjmaaGreatDoorFb
set_option exponentiation.threshold 3000
namespace Go.Fl
open Ieee

theorem nearest_zero (s : Bool) (e : Int) : double.nearest s 0 e = double.word s 0 := by unfold Format.nearest; rw [if_pos rfl]

theorem bd_word0 (E : Nat) (s : Bool) : Bd E (some (double.word s 0)) := by
  intro b hb
  cases hb
  rw [units_word double.signWeight_pos, double.units_zero]
  exact Nat.zero_le _

/-- A quotient that is at most 2 ^ E. -/
theorem quo_le {E x y : Nat} (hE : E < 2098) (hx : double.rungOf x < double.infRung) (hy : double.rungOf y < double.infRung)
    (h : double.units (double.rungOf x) * 2 ^ 1074 ≤ 2 ^ E * double.units (double.rungOf y)) : Bd E (fop .quo .f64 (some x) (some y)) := by
  obtain ⟨m, e1, hm, um⟩ := double.read_fin hx
  obtain ⟨n, e2, hn, un⟩ := double.read_fin hy
  intro b hb
  have hb' : double.div x y = some b := hb
  unfold Format.div at hb'
  rw [hm, hn] at hb'
  simp only [Datum.quotient] at hb'
  by_cases hn0 : n = 0
  · rw [if_pos hn0] at hb'
    have hu : double.units (double.rungOf x) = 0 := by
      rw [← un, hn0, Nat.zero_mul, Nat.mul_zero] at h
      have := Nat.two_pow_pos 1074
      rcases Nat.mul_eq_zero.1 (Nat.le_zero.1 h) with h1 | h1
      · exact h1
      · omega
    have hm0 : m = 0 := by
      rw [← um] at hu
      rcases Nat.mul_eq_zero.1 hu with h1 | h1
      · exact h1
      · have := Nat.two_pow_pos e1; omega
    rw [if_pos hm0] at hb'
    simp at hb'
  · rw [if_neg hn0] at hb'
    simp only [Option.map_some, Option.some.injEq, Format.write] at hb'
    obtain ⟨mo, hmo⟩ : ∃ mo, mo = double.fractionBits + 2 + n.log2 - m.log2 := ⟨_, rfl⟩
    rw [← hmo] at hb'
    by_cases hm0 : m = 0
    · subst hm0
      have e0 : 2 * (0 <<< mo / n) + (0 <<< mo % n != 0).toNat = 0 := by simp
      rw [e0, nearest_zero] at hb'
      rw [← hb']
      exact bd_word0 E _ _ rfl
    have hlp : double.leastPlace = -1074 := by decide
    rw [hlp] at hb'
    rw [← um, ← un] at h
    have hlog : m.log2 + e1 + 1074 ≤ n.log2 + e2 + E := by
      have h1 : (m * 2 ^ e1 * 2 ^ 1074).log2 ≤ (2 ^ E * (n * 2 ^ e2)).log2 := by
        rw [Nat.le_log2 (by
          have := Nat.two_pow_pos E
          have := Nat.two_pow_pos e2
          exact Nat.mul_ne_zero (by omega) (Nat.mul_ne_zero hn0 (by omega)))]
        refine Nat.le_trans (Nat.log2_self_le ?_) h
        have := Nat.two_pow_pos 1074
        have := Nat.two_pow_pos e1
        exact Nat.mul_ne_zero (Nat.mul_ne_zero hm0 (by omega)) (by omega)
      rw [Nat.mul_assoc m, ← Nat.pow_add, Format.log2_mul_pow _ _ hm0, Nat.mul_comm (2 ^ E), Nat.mul_assoc n, ← Nat.pow_add, Format.log2_mul_pow _ _ hn0] at h1
      have h2 : m.log2 + (e1 + 1074) ≤ n.log2 + (e2 + E) := by rw [Nat.add_comm e2 E] at *; first | exact h1 | exact (Nat.add_comm E e2 ▸ h1)
      rw [Nat.add_assoc, Nat.add_assoc]
      exact h2
    -- the bound in units of the quotient
    obtain ⟨K, hK⟩ : ∃ K : Nat, (K : Int) = (E : Int) - 1074 - (e1 : Int) + (e2 : Int) + (mo : Int) := ⟨((E : Int) - 1074 - (e1 : Int) + (e2 : Int) + (mo : Int)).toNat, by omega⟩
    have hD : m <<< mo ≤ 2 ^ K * n := by
      rw [Nat.shiftLeft_eq]
      apply Nat.le_of_mul_le_mul_right _ (Nat.two_pow_pos (e1 + 1074))
      calc m * 2 ^ mo * 2 ^ (e1 + 1074) = m * 2 ^ e1 * 2 ^ 1074 * 2 ^ mo := by rw [Nat.pow_add]; simp only [Nat.mul_assoc, Nat.mul_comm (2 ^ mo)]
        _ ≤ 2 ^ E * (n * 2 ^ e2) * 2 ^ mo := Nat.mul_le_mul_right _ h
        _ = n * 2 ^ (E + e2 + mo) := by rw [Nat.pow_add, Nat.pow_add]; simp only [Nat.mul_assoc, Nat.mul_left_comm]
        _ = n * 2 ^ (K + (e1 + 1074)) := by congr 2; omega
        _ = 2 ^ K * n * 2 ^ (e1 + 1074) := by rw [Nat.pow_add]; simp only [Nat.mul_assoc, Nat.mul_left_comm]
    have hnp : 0 < n := Nat.pos_of_ne_zero hn0
    have hmag : 2 * (m <<< mo / n) + (m <<< mo % n != 0).toNat ≤ 2 ^ (K + 1) := by
      have hp : 2 ^ (K + 1) = 2 * 2 ^ K := by rw [Nat.pow_succ]; omega
      have hdm := Nat.div_add_mod (m <<< mo) n
      by_cases hq : m <<< mo / n < 2 ^ K
      · have : (m <<< mo % n != 0).toNat ≤ 1 := by cases (m <<< mo % n != 0) <;> decide
        omega
      · have hle : m <<< mo / n ≤ 2 ^ K := Nat.div_le_of_le_mul (by rw [Nat.mul_comm]; exact hD)
        have heq : m <<< mo / n = 2 ^ K := by omega
        have hz : m <<< mo % n = 0 := by
          rw [heq, Nat.mul_comm] at hdm
          omega
        rw [hz, heq, hp]
        simp
    obtain ⟨R, hR, hu⟩ := pow_word hE
    obtain ⟨mag, hmg⟩ : ∃ mag, mag = 2 * (m <<< mo / n) + (m <<< mo % n != 0).toNat := ⟨_, rfl⟩
    rw [← hmg] at hb' hmag
    obtain ⟨pl, hpl⟩ : ∃ pl : Int, pl = -1074 + (e1 : Int) - (-1074 + (e2 : Int)) - (mo : Int) - 1 := ⟨_, rfl⟩
    rw [← hpl] at hb'
    obtain ⟨r, hr1, hw⟩ := double.nearest_le (double.isNeg x ^^ double.isNeg y) mag pl (R := R) (by
      rw [hu, hlp]
      by_cases hc : -1074 ≤ pl
      · have ee : (-1074 - pl).toNat = 0 := by omega
        rw [ee, Nat.pow_zero, Nat.mul_one]
        calc mag * 2 ^ (pl - -1074).toNat ≤ 2 ^ (K + 1) * 2 ^ (pl - -1074).toNat := Nat.mul_le_mul_right _ hmag
          _ = 2 ^ E := by rw [← Nat.pow_add]; congr 1; omega
      · have ee : (pl - -1074).toNat = 0 := by omega
        rw [ee, Nat.pow_zero, Nat.mul_one, ← Nat.pow_add]
        exact Nat.le_trans hmag (two_pow_le (by omega)))
    rw [hw] at hb'
    exact bd_of_word hR hu hr1 b (by rw [hb'])

theorem nan_or (y : Nat) (h : double.nan y = false) : double.rungOf y < double.infRung ∨ double.rungOf y = double.infRung := by
  rw [double.nan_iff (by decide)] at h
  have : double.rungOf y ≤ double.infRung := by simpa using h
  omega

/-- Divided by at least 1. -/
theorem bd_div_ge1 {E : Nat} {x y : Option Nat} (hx : Bd E x) (hy : Ge1 y) (hn : Num y) (hE : E < 2098) : Bd E (fop .quo .f64 x y) := by
  cases x with
  | none => exact bd_none _
  | some x =>
    cases y with
    | none => exact bd_none _
    | some y =>
      have h1 := hx x rfl
      have h2 := (hy y rfl).2
      have hxf := Bd.fin h1 hE
      rcases nan_or y (hn y rfl) with hf | hi
      · exact quo_le hE hxf hf (Nat.mul_le_mul h1 h2)
      · intro b hb
        have hb' : double.div x y = some b := hb
        obtain ⟨m, e1, hm, um⟩ := double.read_fin hxf
        unfold Format.div at hb'
        rw [hm, double.read_inf (by decide) hi] at hb'
        simp only [Datum.quotient, Option.map_some, Option.some.injEq, Format.write] at hb'
        rw [nearest_zero] at hb'
        rw [← hb']
        exact bd_word0 E _ _ rfl

theorem num_fop {op : BinOp} {x y : Option Nat} : Num (fop op .f64 x y) := by
  intro b hb
  cases x with
  | none => cases hb
  | some x =>
    cases y with
    | none => cases hb
    | some y => exact (floatBits_is (k := .f64) hb).some.2

theorem num_val (b : Nat) : Num (val .f64 b) := by
  intro c hc
  by_cases hn : double.nan b = true
  · rw [val_nan (k := .f64) hn] at hc; cases hc
  · have hn' : double.nan b = false := by simpa using hn
    rw [val_num (k := .f64) hn'] at hc
    cases hc; exact hn'

theorem Is.num {b : Nat} {v : Option Nat} (h : Is .f64 b v) : Num v := by rw [← h.1]; exact num_val b

theorem num_sqrt (x : Nat) : Num (fsqrt (val .f64 x)) := by
  intro c hc
  rw [← sqrt_val] at hc
  exact (sqrt_is hc).some.2

/-- A constant's bounds. -/
theorem bd_const {c E : Nat} (h : double.units (double.rungOf c) ≤ 2 ^ E) : Bd E (some c) := fun b hb => by cases hb; exact h
theorem ge1_const {c : Nat} (h : double.isNeg c = false ∧ 2 ^ 1074 ≤ double.units (double.rungOf c)) : Ge1 (some c) := fun b hb => by cases hb; exact h
theorem num_const {c : Nat} (h : double.nan c = false) : Num (some c) := fun b hb => by cases hb; exact h

/-! ### the sign -/
theorem xor_top (b : Nat) (hb : b < 18446744073709551616) : b ^^^ 9223372036854775808 = if 9223372036854775808 ≤ b then b - 9223372036854775808 else b + 9223372036854775808 := by
  have h63 : (9223372036854775808 : Nat) = 2 ^ 63 := rfl
  by_cases hc : 9223372036854775808 ≤ b
  · rw [if_pos hc]
    have e : b = 2 ^ 63 + (b - 9223372036854775808) := by omega
    have hlt : b - 9223372036854775808 < 2 ^ 63 := by omega
    generalize hm : b - 9223372036854775808 = m at e hlt
    rw [e, h63]
    have h1 : 2 ^ 63 + m = 2 ^ 63 ^^^ m := by
      have := Nat.two_pow_add_eq_or_of_lt hlt 1
      rw [Nat.mul_one] at this
      rw [this]
      apply Nat.eq_of_testBit_eq
      intro i
      rw [Nat.testBit_or, Nat.testBit_xor, Nat.testBit_two_pow]
      by_cases hi : 63 = i
      · subst hi
        rw [Nat.testBit_lt_two_pow hlt]; simp
      · have : decide (63 = i) = false := by simpa using hi
        rw [this]; simp
    rw [h1, Nat.xor_comm (2 ^ 63) m, Nat.xor_assoc, Nat.xor_self, Nat.xor_zero]
  · rw [if_neg hc]
    have hlt : b < 2 ^ 63 := by omega
    have := Nat.two_pow_add_eq_or_of_lt hlt 1
    rw [Nat.mul_one] at this
    rw [h63, Nat.add_comm, this]
    apply Nat.eq_of_testBit_eq
    intro i
    rw [Nat.testBit_or, Nat.testBit_xor, Nat.testBit_two_pow]
    by_cases hi : 63 = i
    · subst hi
      rw [Nat.testBit_lt_two_pow hlt]; simp
    · have : decide (63 = i) = false := by simpa using hi
      rw [this]; simp

theorem neg_rung (b : Nat) (hb : b < 18446744073709551616) : double.rungOf (Op.negFloat .f64 b) = double.rungOf b ∧ Op.negFloat .f64 b < 18446744073709551616 := by
  have h : Op.negFloat .f64 b = b ^^^ 9223372036854775808 := rfl
  rw [h, xor_top b hb, rungOf_dbl, rungOf_dbl]
  split <;> omega

def fneg : Option Nat → Option Nat := Option.map (Op.negFloat .f64)

theorem Is.neg {b : Nat} {v : Option Nat} (h : Is .f64 b v) : Is .f64 (Op.negFloat .f64 b) (fneg v) := by
  have hb : b < 18446744073709551616 := h.2
  obtain ⟨h1, h2⟩ := neg_rung b hb
  refine ⟨?_, h2⟩
  have hn : double.nan (Op.negFloat .f64 b) = double.nan b := by rw [double.nan_iff (by decide), double.nan_iff (by decide), h1]
  rw [← h.1]
  unfold fneg
  by_cases hc : double.nan b = true
  · rw [val_nan (k := .f64) hc, val_nan (k := .f64) (by rw [← hc]; exact hn)]; rfl
  · have hc' : double.nan b = false := by simpa using hc
    rw [val_num (k := .f64) hc', val_num (k := .f64) (by rw [← hc']; exact hn)]; rfl

theorem bd_neg {E : Nat} {v : Option Nat} (h : Bd E v) (hl : ∀ b, v = some b → b < 18446744073709551616) : Bd E (fneg v) := by
  intro c hc
  cases v with
  | none => cases hc
  | some b =>
    cases hc
    rw [(neg_rung b (hl b rfl)).1]
    exact h b rfl

/-! ### the whole part -/
theorem cut_zero_eq (s : Bool) (n drop : Nat) : Toward.zero.cut s n drop = n / 2 ^ drop := by
  unfold Toward.cut
  dsimp only
  rw [Nat.one_shiftLeft]
  simp only [Bool.toNat_false, Nat.add_zero]
  by_cases h : drop ≤ n.log2 + 2
  · rw [Nat.min_eq_left h]
  · rw [Nat.min_eq_right (by omega)]
    have h1 : n < 2 ^ (n.log2 + 1) := Nat.lt_log2_self
    have h2 : 2 ^ (n.log2 + 1) ≤ 2 ^ (n.log2 + 2) := two_pow_le (by omega)
    have h3 : 2 ^ (n.log2 + 1) ≤ 2 ^ drop := two_pow_le (by omega)
    rw [Nat.div_eq_of_lt (by omega), Nat.div_eq_of_lt (by omega)]

/-- The whole part of a finite double, as a number. -/
def wholeOf (b : Nat) : Int := if double.isNeg b then -((double.units (double.rungOf b) / 2 ^ 1074 : Nat) : Int) else ((double.units (double.rungOf b) / 2 ^ 1074 : Nat) : Int)

theorem toInt_fin {b : Nat} (h : double.rungOf b < double.infRung) : (FloatKind.f64.decode b).toInt .zero = some (wholeOf b) := by
  obtain ⟨m, e, hr, hu⟩ := double.read_fin h
  show (double.read b).toInt .zero = _
  rw [hr]
  have hlp : double.leastPlace = -1074 := by decide
  simp only [Datum.toInt, Datum.integral, cut_zero_eq]
  unfold wholeOf signed
  rw [← hu, hlp]
  have hM : m <<< (-1074 + (e : Int)).toNat / 2 ^ (-(-1074 + (e : Int))).toNat = m * 2 ^ e / 2 ^ 1074 := by
    rw [Nat.shiftLeft_eq]
    by_cases hc : 1074 ≤ e
    · have e1 : (-1074 + (e : Int)).toNat = e - 1074 := by omega
      have e2 : (-(-1074 + (e : Int))).toNat = 0 := by omega
      have e3 : 2 ^ e = 2 ^ (e - 1074) * 2 ^ 1074 := by rw [← Nat.pow_add]; congr 1; omega
      rw [e1, e2, e3, Nat.pow_zero, Nat.div_one, ← Nat.mul_assoc, Nat.mul_div_cancel _ (Nat.two_pow_pos 1074)]
    · have e1 : (-1074 + (e : Int)).toNat = 0 := by omega
      have e2 : (-(-1074 + (e : Int))).toNat = 1074 - e := by omega
      have e3 : 2 ^ 1074 = 2 ^ (1074 - e) * 2 ^ e := by rw [← Nat.pow_add]; congr 1; omega
      rw [e1, e2, e3, Nat.pow_zero, Nat.mul_one, Nat.mul_div_mul_right _ _ (Nat.two_pow_pos e)]
  rw [hM, Nat.shiftLeft_zero]

theorem toIntVal {b : Nat} (hb : double.units (double.rungOf b) < 2 ^ 1126) : floatToIntVal .f64 b .i64 = some (wholeOf b) ∧ -4503599627370496 ≤ wholeOf b ∧ wholeOf b ≤ 4503599627370496 := by
  have hf : double.rungOf b < double.infRung := double.lt_inf_of_units (Nat.le_of_lt hb) (by rw [dinf]; exact two_pow_lt (by decide))
  have hM : double.units (double.rungOf b) / 2 ^ 1074 < 4503599627370496 := by
    rw [Nat.div_lt_iff_lt_mul (Nat.two_pow_pos _)]
    have : 4503599627370496 * 2 ^ 1074 = 2 ^ 1126 := by rw [show (4503599627370496 : Nat) = 2 ^ 52 from rfl, ← Nat.pow_add]
    omega
  have hw : -4503599627370496 ≤ wholeOf b ∧ wholeOf b ≤ 4503599627370496 := by
    unfold wholeOf
    split <;> omega
  refine ⟨?_, hw⟩
  unfold floatToIntVal
  rw [toInt_fin hf]
  have h1 : IntKind.i64.min = -9223372036854775808 := by decide
  have h2 : IntKind.i64.max = 9223372036854775807 := by decide
  simp only [h1, h2]
  rw [if_pos ⟨by omega, by omega⟩]

/-- A whole number that fits is a double's. -/
theorem ofInt_word {n : Int} (h : n.natAbs < 2 ^ 53) : ∃ r, r < double.infRung ∧ double.units r = n.natAbs * 2 ^ 1074 ∧ floatOfInt .f64 n = double.word (decide (n < 0)) r := by
  obtain ⟨r, h1, h2⟩ := double.exists_rung n.natAbs 1074 h (by
    rw [dinf]
    calc n.natAbs * 2 ^ 1074 < 2 ^ 53 * 2 ^ 1074 := Nat.mul_lt_mul_of_pos_right h (Nat.two_pow_pos _)
      _ = 2 ^ 1127 := by rw [← Nat.pow_add]
      _ ≤ _ := two_pow_le (by decide))
  refine ⟨r, h1, h2, ?_⟩
  show double.nearest (decide (n < 0)) n.natAbs 0 = _
  refine double.nearest_exact _ _ _ r (Nat.le_of_lt h1) ?_
  have hlp : double.leastPlace = -1074 := by decide
  have e1 : ((0 : Int) - -1074).toNat = 1074 := by decide
  have e2 : ((-1074 : Int) - 0).toNat = 0 := by decide
  rw [h2, hlp, e1, e2, Nat.pow_zero, Nat.mul_one]

theorem ofInt_sv {n : Int} (h : n.natAbs < 2 ^ 53) : double.sv (floatOfInt .f64 n) = n * ((2 ^ 1074 : Nat) : Int) ∧ double.rungOf (floatOfInt .f64 n) < double.infRung := by
  obtain ⟨r, h1, h2, h3⟩ := ofInt_word h
  have hlt := double.infRung_lt
  rw [h3]
  unfold Format.sv
  rw [double.isNeg_word _ (by omega), double.rungOf_word _ (by omega), h2]
  refine ⟨?_, h1⟩
  by_cases hn : n < 0
  · simp only [hn, decide_true, if_true]
    rw [Int.natCast_mul, show ((n.natAbs : Nat) : Int) = -n by omega, Int.neg_mul, Int.neg_neg]
  · simp only [hn, decide_false, Bool.false_eq_true, if_false]
    rw [Int.natCast_mul, show ((n.natAbs : Nat) : Int) = n by omega]

theorem frac_aux (U P : Nat) (hP : 0 < P) (s : Bool) :
    ((if s = true then -(U : Int) else (U : Int)) - (if s = true then -((U / P : Nat) : Int) else ((U / P : Nat) : Int)) * (P : Int)).natAbs ≤ P := by
  have hdm := Nat.div_add_mod U P
  have hm := Nat.mod_lt U hP
  have hc : ((U / P : Nat) : Int) * (P : Int) = ((P * (U / P) : Nat) : Int) := by rw [Int.natCast_mul, Int.mul_comm]
  obtain ⟨q, hq⟩ : ∃ q, q = P * (U / P) := ⟨_, rfl⟩
  rw [← hq] at hdm hc
  cases s
  · simp only [Bool.false_eq_true, if_false]
    rw [hc]; omega
  · simp only [if_true]
    rw [Int.neg_mul, hc]; omega

/-- What is left of a double without its whole part. -/
theorem bd_frac {b : Nat} (hb : double.units (double.rungOf b) < 2 ^ 1126) : Bd 1074 (fop .sub .f64 (some b) (some (floatOfInt .f64 (wholeOf b)))) := by
  have hf : double.rungOf b < double.infRung := double.lt_inf_of_units (Nat.le_of_lt hb) (by rw [dinf]; exact two_pow_lt (by decide))
  have hw := (toIntVal hb).2
  obtain ⟨s1, f1⟩ := ofInt_sv (n := wholeOf b) (by omega)
  obtain ⟨R, hR, hu⟩ := pow_word (E := 1074) (by decide)
  obtain ⟨s, r, hr, he⟩ := double.sub_le (R := R) hf f1 (by
    rw [s1, hu]
    exact frac_aux _ _ (Nat.two_pow_pos 1074) _)
  show Bd _ (double.sub b _)
  rw [he]
  exact bd_of_word hR hu hr
end Go.Fl
