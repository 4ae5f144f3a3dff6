/- Plain laws: exact quotients; the logarithm as a function of a double's bits. No program in sight. -/
import Derived.Test.YtpfjcfhgckpjmaaGreatDoorFa
set_option exponentiation.threshold 3000
set_option linter.unusedSimpArgs false
namespace Go.Fl
open Ieee

/-- A quotient that a double is, exactly. -/
theorem quo_exact {x y R : Nat} (hx : double.rungOf x < double.infRung) (hy : double.rungOf y < double.infRung) (hR : R ≤ double.infRung)
    (hy0 : double.units (double.rungOf y) ≠ 0) (h : double.units (double.rungOf x) * 2 ^ 1074 = double.units R * double.units (double.rungOf y)) :
    double.div x y = some (double.word (double.isNeg x ^^ double.isNeg y) R) := by
  obtain ⟨m, e1, hm, um⟩ := double.read_fin hx
  obtain ⟨n, e2, hn, un⟩ := double.read_fin hy
  have hn0 : n ≠ 0 := by
    intro h0; rw [h0, Nat.zero_mul] at un; exact hy0 un.symm
  unfold Format.div
  rw [hm, hn]
  simp only [Datum.quotient]
  rw [if_neg hn0]
  simp only [Option.map_some, Option.some.injEq, Format.write]
  obtain ⟨mo, hmo⟩ : ∃ mo, mo = double.fractionBits + 2 + n.log2 - m.log2 := ⟨_, rfl⟩
  rw [← hmo]
  have hlp : double.leastPlace = -1074 := by decide
  have hfb : double.fractionBits = 52 := by decide
  rw [hlp]
  rw [← um, ← un] at h
  obtain ⟨a, f, hu, ha⟩ := double.units_digits (r := R)
  rw [hfb] at ha hmo
  have hdvd : ∃ Q, m <<< mo = Q * n := by
    by_cases hm0 : m = 0
    · exact ⟨0, by rw [hm0]; simp⟩
    have ha0 : a ≠ 0 := by
      intro h0
      rw [hu, h0, Nat.zero_mul, Nat.zero_mul] at h
      have := Nat.two_pow_pos 1074
      have := Nat.two_pow_pos e1
      rcases Nat.mul_eq_zero.1 h with h1 | h1
      · rcases Nat.mul_eq_zero.1 h1 with h2 | h2 <;> omega
      · omega
    have hE : m * 2 ^ (e1 + 1074) = a * n * 2 ^ (f + e2) := by
      have : m * 2 ^ (e1 + 1074) = m * 2 ^ e1 * 2 ^ 1074 := by rw [Nat.pow_add, Nat.mul_assoc]
      rw [this, h, hu, Nat.pow_add]
      simp only [Nat.mul_assoc, Nat.mul_left_comm]
    have hlog : m.log2 + (e1 + 1074) ≤ 53 + n.log2 + (f + e2) := by
      have h1 : (m * 2 ^ (e1 + 1074)).log2 = (a * n * 2 ^ (f + e2)).log2 := by rw [hE]
      rw [Format.log2_mul_pow _ _ hm0, Format.log2_mul_pow _ _ (Nat.mul_ne_zero ha0 hn0)] at h1
      have h2 : (a * n).log2 < 53 + n.log2 + 1 := by
        rw [Nat.log2_lt (Nat.mul_ne_zero ha0 hn0)]
        have h3 : n < 2 ^ (n.log2 + 1) := Nat.lt_log2_self
        calc a * n < 2 ^ (52 + 1) * 2 ^ (n.log2 + 1) := Nat.mul_lt_mul'' ha h3
          _ = 2 ^ (53 + n.log2 + 1) := by rw [← Nat.pow_add]; congr 1
      omega
    refine ⟨a * 2 ^ (f + e2 + mo - (e1 + 1074)), ?_⟩
    rw [Nat.shiftLeft_eq]
    apply Nat.eq_of_mul_eq_mul_right (Nat.two_pow_pos (e1 + 1074))
    have e3 : f + e2 + mo = (f + e2 + mo - (e1 + 1074)) + (e1 + 1074) := by omega
    calc m * 2 ^ mo * 2 ^ (e1 + 1074) = m * 2 ^ (e1 + 1074) * 2 ^ mo := by simp only [Nat.mul_assoc, Nat.mul_comm (2 ^ mo)]
      _ = a * n * 2 ^ (f + e2) * 2 ^ mo := by rw [hE]
      _ = a * n * 2 ^ (f + e2 + mo) := by rw [Nat.mul_assoc, ← Nat.pow_add]
      _ = a * n * 2 ^ ((f + e2 + mo - (e1 + 1074)) + (e1 + 1074)) := by rw [← e3]
      _ = a * 2 ^ (f + e2 + mo - (e1 + 1074)) * n * 2 ^ (e1 + 1074) := by rw [Nat.pow_add]; simp only [Nat.mul_assoc, Nat.mul_left_comm]
  obtain ⟨Q, hQ⟩ := hdvd
  have hnp : 0 < n := Nat.pos_of_ne_zero hn0
  have e4 : m <<< mo / n = Q := by rw [hQ]; exact Nat.mul_div_cancel _ hnp
  have e5 : m <<< mo % n = 0 := by rw [hQ]; exact Nat.mul_mod_left _ _
  rw [e4, e5]
  have e6 : 2 * Q + ((0 : Nat) != 0).toNat = 2 * Q := by simp
  rw [e6]
  refine double.nearest_exact _ _ _ R hR ?_
  rw [hlp]
  -- the scale
  have hS : 2 * Q * (n * 2 ^ (e1 + 1074)) = double.units R * (n * 2 ^ (e2 + mo + 1)) := by
    rw [Nat.shiftLeft_eq] at hQ
    calc 2 * Q * (n * 2 ^ (e1 + 1074)) = Q * n * 2 ^ (e1 + 1074) * 2 := by simp only [Nat.mul_assoc, Nat.mul_comm, Nat.mul_left_comm]
      _ = m * 2 ^ mo * 2 ^ (e1 + 1074) * 2 := by rw [← hQ]
      _ = m * 2 ^ e1 * 2 ^ 1074 * 2 ^ mo * 2 := by rw [Nat.pow_add]; simp only [Nat.mul_assoc, Nat.mul_comm (2 ^ mo), Nat.mul_left_comm (2 ^ mo)]
      _ = double.units R * (n * 2 ^ e2) * 2 ^ mo * 2 := by rw [h]
      _ = double.units R * (n * 2 ^ (e2 + mo + 1)) := by rw [Nat.pow_succ, Nat.pow_add]; simp only [Nat.mul_assoc]
  have hS2 : 2 * Q * 2 ^ (e1 + 1074) = double.units R * 2 ^ (e2 + mo + 1) := by
    apply Nat.eq_of_mul_eq_mul_right hnp
    calc 2 * Q * 2 ^ (e1 + 1074) * n = 2 * Q * (n * 2 ^ (e1 + 1074)) := by simp only [Nat.mul_assoc, Nat.mul_comm n]
      _ = double.units R * (n * 2 ^ (e2 + mo + 1)) := hS
      _ = _ := by simp only [Nat.mul_assoc, Nat.mul_comm n]
  obtain ⟨pl, hpl⟩ : ∃ pl : Int, pl = -1074 + (e1 : Int) - (-1074 + (e2 : Int)) - (mo : Int) - 1 := ⟨_, rfl⟩
  rw [← hpl]
  by_cases hc : -1074 ≤ pl
  · have ee : (-1074 - pl).toNat = 0 := by omega
    rw [ee, Nat.pow_zero, Nat.mul_one]
    apply Nat.eq_of_mul_eq_mul_right (Nat.two_pow_pos (e2 + mo + 1))
    rw [← hS2, Nat.mul_assoc, ← Nat.pow_add, show (pl - -1074).toNat + (e2 + mo + 1) = e1 + 1074 by omega]
  · have ee : (pl - -1074).toNat = 0 := by omega
    rw [ee, Nat.pow_zero, Nat.mul_one]
    apply Nat.eq_of_mul_eq_mul_right (Nat.two_pow_pos (e1 + 1074))
    rw [hS2, Nat.mul_assoc, ← Nat.pow_add, show (-1074 - pl).toNat + (e1 + 1074) = e2 + mo + 1 by omega]

/-! ### numbers of at least 0 are their own rungs -/
theorem binade_dbl : double.binade = 4503599627370496 := by decide
theorem inf_dbl : double.infRung = 9218868437227405312 := by decide
theorem rung_self {r : Nat} (h : r < 9223372036854775808) : double.rungOf r = r := Nat.mod_eq_of_lt h
theorem isNeg_self {r : Nat} (h : r < 9223372036854775808) : double.isNeg r = false := by
  rw [isNeg_dbl r (by omega)]; simp; omega
theorem word_self (r : Nat) : double.word false r = r := rfl

theorem units_up {r : Nat} (h : 4503599627370496 ≤ r) : double.units (r + 4503599627370496) = 2 * double.units r := by
  rw [double.units_norm (by rw [binade_dbl]; omega), double.units_norm (by rw [binade_dbl]; omega), binade_dbl]
  have e1 : (r + 4503599627370496) % 4503599627370496 = r % 4503599627370496 := by omega
  have e2 : (r + 4503599627370496) / 4503599627370496 - 1 = (r / 4503599627370496 - 1) + 1 := by omega
  rw [e1, e2, Nat.pow_succ]
  simp only [Nat.mul_assoc, Nat.mul_comm, Nat.mul_left_comm]

theorem c2_units : double.units (double.rungOf c2) = 2 * 2 ^ 1074 := by decide +kernel

theorem half_word {r : Nat} (h : 2 * 4503599627370496 ≤ r) (hi : r < 9218868437227405312) : fop .quo .f64 (some r) (some c2) = some (r - 4503599627370496) := by
  have hr : double.rungOf r = r := rung_self (by omega)
  have := units_up (r := r - 4503599627370496) (by omega)
  rw [Nat.sub_add_cancel (by omega)] at this
  have hq := quo_exact (x := r) (y := c2) (R := r - 4503599627370496) (by rw [hr, inf_dbl]; exact hi) (by decide) (by rw [inf_dbl]; omega) (by rw [c2_units]; exact Nat.mul_ne_zero (by decide) (Nat.ne_of_gt (Nat.two_pow_pos 1074)))
    (by rw [hr, this, c2_units]; simp only [Nat.mul_assoc, Nat.mul_comm, Nat.mul_left_comm])
  rw [isNeg_self (by omega), show double.isNeg c2 = false by decide, show (false ^^ false) = false from rfl, word_self] at hq
  show double.div r c2 = _
  exact hq

theorem dbl_word {r : Nat} (h : 4503599627370496 ≤ r) (hi : r + 4503599627370496 < 9218868437227405312) : fop .mul .f64 (some r) (some c2) = some (r + 4503599627370496) := by
  have hr : double.rungOf r = r := rung_self (by omega)
  have hq := double.mul_exact (by decide) (x := r) (y := c2) (R := r + 4503599627370496) (by rw [hr, inf_dbl]; omega) (by decide) (by rw [inf_dbl]; omega)
    (by rw [hr, units_up h, c2_units]; show _ = _ * 2 ^ 1074; simp only [Nat.mul_assoc, Nat.mul_comm, Nat.mul_left_comm])
  rw [isNeg_self (by omega), show double.isNeg c2 = false by decide, show (false ^^ false) = false from rfl, word_self] at hq
  show double.mul r c2 = _
  exact hq

/-- Numbers of at least 0 are ordered as their bits are. -/
theorem cmp_self {a b : Nat} (ha : a < 9223372036854775808) (hb : b < 9223372036854775808) : cmp .f64 (some a) (some b) = some (compare a b) := by
  show some (compare (double.sv a) (double.sv b)) = _
  unfold Format.sv
  rw [isNeg_self ha, isNeg_self hb, rung_self ha, rung_self hb]
  simp only [Bool.false_eq_true, if_false]
  congr 1
  rcases Nat.lt_trichotomy a b with h | h | h
  · rw [(Nat.compare_eq_lt).2 h, (Int.compare_eq_lt).2 (by exact_mod_cast (double.units_lt_iff).2 h)]
  · subst h; simp
  · rw [(Nat.compare_eq_gt).2 h, (Int.compare_eq_gt).2 (by exact_mod_cast (double.units_lt_iff).2 h)]

/-- The double of a whole number. -/
def kbi (e : Int) : Nat := floatOfInt .f64 e
theorem kbi_up : ∀ j : Nat, j < 600 → fop .add .f64 (some (kbi ((j : Int) - 300))) (some c1) = some (kbi ((j : Int) - 300 + 1)) := by decide +kernel
theorem kbi_down : ∀ j : Nat, j < 600 → fop .sub .f64 (some (kbi ((j : Int) - 300))) (some c1) = some (kbi ((j : Int) - 300 - 1)) := by decide +kernel
theorem kbi_inc {e : Int} (h0 : -300 ≤ e) (h1 : e < 300) : fop .add .f64 (some (kbi e)) (some c1) = some (kbi (e + 1)) := by
  have := kbi_up (e + 300).toNat (by omega)
  rwa [show (((e + 300).toNat : Nat) : Int) - 300 = e by omega] at this
theorem kbi_dec {e : Int} (h0 : -300 ≤ e) (h1 : e < 300) : fop .sub .f64 (some (kbi e)) (some c1) = some (kbi (e - 1)) := by
  have := kbi_down (e + 300).toNat (by omega)
  rwa [show (((e + 300).toNat : Nat) : Int) - 300 = e by omega] at this
theorem kbi_0 : kbi 0 = 0 := by decide +kernel
theorem kbi_num {e : Int} (h0 : -1000 ≤ e) (h1 : e < 1000) : double.nan (kbi e) = false ∧ kbi e < 18446744073709551616 := by
  obtain ⟨r, h2, -, h3⟩ := ofInt_word (n := e) (by omega)
  have hlt := double.infRung_lt
  unfold kbi
  rw [h3]
  refine ⟨?_, ?_⟩
  · rw [double.nan_iff (by decide), double.rungOf_word _ (by omega)]; simp; omega
  · rw [inf_dbl] at h2
    show double.word _ r < _
    unfold Format.word
    have : double.signWeight = 9223372036854775808 := by decide
    rw [this]
    split <;> omega

theorem bd_kbi {e : Int} (h0 : -1000 ≤ e) (h1 : e < 1000) : Bd 1084 (some (kbi e)) := by
  obtain ⟨r, h2, hu, h3⟩ := ofInt_word (n := e) (by omega)
  have hlt := double.infRung_lt
  intro b hb
  cases hb
  unfold kbi
  rw [h3, double.rungOf_word _ (by omega), hu]
  calc e.natAbs * 2 ^ 1074 ≤ 2 ^ 10 * 2 ^ 1074 := Nat.mul_le_mul_right _ (by omega)
    _ = 2 ^ 1084 := by rw [← Nat.pow_add]

/-! ### series of odd parts -/
/-- p = 1/k (op) u p, for k = K, K - 2, .. -/
def srI (op : BinOp) (K : Nat) (u : Option Nat) : Nat → Option Nat
  | 0 => some c0
  | i + 1 => fop op .f64 (fop .quo .f64 (some c1) (some (kb (K - 2 * i)))) (fop .mul .f64 u (srI op K u i))

theorem kb_ge1 : ∀ j : Nat, j < 26 → 1 ≤ j → Ge1 (some (kb j)) ∧ Num (some (kb j)) := by
  intro j h1 h2
  have : ∀ j : Nat, j < 26 → 1 ≤ j → (double.isNeg (kb j) = false ∧ 2 ^ 1074 ≤ double.units (double.rungOf (kb j))) ∧ double.nan (kb j) = false := by decide +kernel
  exact ⟨ge1_const (this j h1 h2).1, num_const (this j h1 h2).2⟩

theorem bd_srI {op : BinOp} (ho : op = .add ∨ op = .sub) {K : Nat} (hK : K < 26) {u : Option Nat} (hu : Bd 1074 u) : ∀ i, 2 * i < K + 2 → Bd (1074 + i) (srI op K u i)
  | 0, _ => by
    intro b hb
    cases hb
    decide +kernel
  | i + 1, h => by
    have ih := bd_srI ho hK hu i (by omega)
    obtain ⟨g1, g2⟩ := kb_ge1 (K - 2 * i) (by omega) (by omega)
    unfold srI
    have a1 : Bd (1074 + i) (fop .quo .f64 (some c1) (some (kb (K - 2 * i)))) := (bd_div_ge1 bd_c1 g1 g2 (by omega)).mono (by omega)
    have a2 : Bd (1074 + i) (fop .mul .f64 u (srI op K u i)) := bd_mul hu ih (by omega) (by omega) (by omega) (by omega)
    rcases ho with rfl | rfl
    · exact bd_add a1 a2 (show 1074 + i < 2097 by omega)
    · exact bd_sub a1 a2 (show 1074 + i < 2097 by omega)

/-! ### the logarithm -/
abbrev r15 : Nat := 4609434218613702656
abbrev r075 : Nat := 4604930618986332160
abbrev ln2 : Nat := 4604418534313441775

def tailL (y : Nat) (e : Int) : Option Nat :=
  let s := fop .quo .f64 (fop .sub .f64 (some y) (some c1)) (fop .add .f64 (some y) (some c1))
  let u := fop .mul .f64 s s
  fop .add .f64 (fop .mul .f64 (some c2) (fop .mul .f64 s (srI .add 25 u 13))) (fop .mul .f64 (some (kbi e)) (some ln2))

def logE (r : Nat) : Int := ((r : Int) - 4604930618986332160) / 4503599627370496
def logY (r : Nat) : Nat := ((r : Int) - logE r * 4503599627370496).toNat
/-- The logarithm of a positive double with the bits r. -/
def logF (r : Nat) : Option Nat := tailL (logY r) (logE r)

theorem logF_of {r y : Nat} {e : Int} (h : (r : Int) = y + e * 4503599627370496) (h0 : 4604930618986332160 ≤ y) (h1 : y < 4609434218613702656) : logF r = tailL y e := by
  have he : logE r = e := by unfold logE; omega
  have hy : logY r = y := by unfold logY; rw [he]; omega
  unfold logF
  rw [he, hy]

theorem num_of_lt {y : Nat} (h : y ≤ 9218868437227405312) : double.nan y = false := by
  rw [double.nan_iff (by decide), rung_self (by omega), inf_dbl]; simp; omega

theorem ge1_add_one {y : Nat} (h : y < 9218868437227405312) : Ge1 (fop .add .f64 (some y) (some c1)) := by
  have hr : double.rungOf y = y := rung_self (by omega)
  have hf : double.rungOf y < double.infRung := by rw [hr, inf_dbl]; exact h
  have hu1 : double.units (double.rungOf c1) = 2 ^ 1074 := by decide +kernel
  have hf1 : double.rungOf c1 < double.infRung := by decide
  have hv1 : double.sv c1 = ((2 ^ 1074 : Nat) : Int) := by
    unfold Format.sv; rw [show double.isNeg c1 = false by decide, hu1]; rfl
  have hvy : 0 ≤ double.sv y := by
    unfold Format.sv; rw [isNeg_self (by omega)]; simp
  obtain ⟨R, hR, huR⟩ := pow_word (E := 1074) (by decide)
  have hlt := double.infRung_lt
  intro b hb
  have hb' : double.add y c1 = some b := hb
  obtain ⟨s, mag, e, k1, k2, k3, -⟩ := double.sum_fin hf hf1
  have hpos : (0 : Int) < ((2 ^ 1074 : Nat) : Int) := by exact_mod_cast Nat.two_pow_pos _
  rw [hv1] at k2 k3
  obtain ⟨r, hr1, hr2, hw⟩ := double.nearest_ge_e s (mag := mag) (e := e) (Nat.le_of_lt hR) (by rw [k2, huR]; omega)
  rw [k1, hw] at hb'
  cases hb'
  have hsf : s = false := by rw [k3 (by omega)]; simp; omega
  rw [double.isNeg_word _ (by omega), units_word (by omega)]
  exact ⟨hsf, by rw [← huR]; exact (double.units_le_iff).2 hr1⟩

theorem bd_tailL {y : Nat} {e : Int} (h1 : y < 4609434218613702656) (h2 : -1000 ≤ e) (h3 : e < 1000) : Bd 1100 (tailL y e) := by
  unfold tailL
  dsimp only
  have hy : Bd 1075 (some y) := by
    intro b hb
    cases hb
    rw [rung_self (by omega)]
    have e : double.units 4611686018427387904 = 2 ^ 1075 := by decide +kernel
    rw [← e]
    exact (double.units_le_iff).2 (by omega)
  have a1 : Bd 1076 (fop .sub .f64 (some y) (some c1)) := bd_sub hy (bd_c1.mono (by omega)) (by omega)
  have hs0 := bd_div_ge1 a1 (ge1_add_one (y := y) (by omega)) num_fop (by omega)
  -- the quotient is at most 1: the difference is at most the sum
  have hs : Bd 1074 (fop .quo .f64 (fop .sub .f64 (some y) (some c1)) (fop .add .f64 (some y) (some c1))) := by
    have hr : double.rungOf y = y := rung_self (by omega)
    have hf : double.rungOf y < double.infRung := by rw [hr, inf_dbl]; omega
    have hf1 : double.rungOf c1 < double.infRung := by decide
    have hv1 : double.sv c1 = ((2 ^ 1074 : Nat) : Int) := by decide +kernel
    have hvy : 0 ≤ double.sv y ∧ double.sv y ≤ ((2 ^ 1075 : Nat) : Int) := by
      have h9 : double.units y ≤ 2 ^ 1075 := by have := hy y rfl; rwa [hr] at this
      unfold Format.sv; rw [isNeg_self (by omega), hr]; simp only [Bool.false_eq_true, if_false]
      exact ⟨by omega, by exact_mod_cast h9⟩
    obtain ⟨R, hR, huR⟩ := pow_word (E := 1074) (by decide)
    obtain ⟨s, r, hr1, he⟩ := double.sub_le (R := R) hf hf1 (by
      rw [hv1, huR]
      have e5 : (2 : Nat) ^ 1075 = 2 * 2 ^ 1074 := by decide +kernel
      obtain ⟨P, hP⟩ : ∃ P : Nat, P = 2 ^ 1074 := ⟨_, rfl⟩
      rw [e5] at hvy
      rw [← hP] at hvy ⊢
      omega)
    have hbs : Bd 1074 (fop .sub .f64 (some y) (some c1)) := by
      show Bd _ (double.sub y c1)
      rw [he]; exact bd_of_word hR huR hr1
    exact bd_div_ge1 hbs (ge1_add_one (y := y) (by omega)) num_fop (by omega)
  have hu : Bd 1074 (fop .mul .f64 (fop .quo .f64 (fop .sub .f64 (some y) (some c1)) (fop .add .f64 (some y) (some c1))) (fop .quo .f64 (fop .sub .f64 (some y) (some c1)) (fop .add .f64 (some y) (some c1)))) :=
    bd_mul hs hs (by omega) (by omega) (by omega) (by omega)
  have hq := bd_srI (op := .add) (.inl rfl) (K := 25) (by omega) hu 13 (by omega)
  have hsq := bd_mul (C := 1090) hs hq (by omega) (by omega) (by omega) (by omega)
  have h2 : Bd 1091 (fop .mul .f64 (some c2) (fop .mul .f64 (fop .quo .f64 (fop .sub .f64 (some y) (some c1)) (fop .add .f64 (some y) (some c1)))
      (srI .add 25 (fop .mul .f64 (fop .quo .f64 (fop .sub .f64 (some y) (some c1)) (fop .add .f64 (some y) (some c1))) (fop .quo .f64 (fop .sub .f64 (some y) (some c1)) (fop .add .f64 (some y) (some c1)))) 13))) :=
    bd_mul (A := 1075) (bd_const (by decide +kernel)) hsq (by omega) (by omega) (by omega) (by omega)
  have h3 : Bd 1091 (fop .mul .f64 (some (kbi e)) (some ln2)) := bd_mul (B := 1074) (bd_kbi ‹_› ‹_›) (bd_const (by decide +kernel)) (by omega) (by omega) (by omega) (by omega)
  exact (bd_add h2 h3 (by omega)).mono (by omega)

/-- What a positive single is as a double. -/
theorem widen_pos {b : Nat} (hs : single.isNeg b = false) (h0 : 0 < single.rungOf b) (h1 : single.rungOf b < single.infRung) :
    ∃ r, widen (.some b) = .some r ∧ 874 * 4503599627370496 ≤ r ∧ r < 1151 * 4503599627370496 ∧ double.units r = single.units (single.rungOf b) * 2 ^ 925 := by
  obtain ⟨rd, hr, hu, hw⟩ := widen_word h1
  rw [hs] at hw
  refine ⟨rd, by unfold widen; rw [Option.map_some, hw]; rfl, ?_, ?_, hu⟩
  · have e : double.units (874 * 4503599627370496) = 2 ^ 925 := by decide +kernel
    rw [← double.units_le_iff, e, hu]
    have : 0 < single.units (single.rungOf b) := by
      have := (single.units_lt_iff).2 h0
      rwa [single.units_zero] at this
    calc 2 ^ 925 = 1 * 2 ^ 925 := (Nat.one_mul _).symm
      _ ≤ _ := Nat.mul_le_mul_right _ this
  · have e : double.units (1151 * 4503599627370496) = 2 ^ (1074 + 128) := by decide +kernel
    rw [← double.units_lt_iff, e, hu]
    have := (single.units_lt_iff).2 h1
    rw [single.units_infRung (by decide)] at this
    calc single.units (single.rungOf b) * 2 ^ 925 < 2 ^ (single.fractionBits + (2 ^ single.exponentBits - 2)) * 2 ^ 925 := Nat.mul_lt_mul_of_pos_right this (Nat.two_pow_pos _)
      _ = 2 ^ (1074 + 128) := by rw [← Nat.pow_add]; rfl

theorem logE_bounds {r : Nat} (h0 : 874 * 4503599627370496 ≤ r) (h1 : r < 1151 * 4503599627370496) : -200 ≤ logE r ∧ logE r < 200 := by
  unfold logE; omega
theorem bd_logF {r : Nat} (h0 : 874 * 4503599627370496 ≤ r) (h1 : r < 1151 * 4503599627370496) : Bd 1100 (logF r) := by
  have h := logE_bounds h0 h1
  unfold logF
  refine bd_tailL ?_ (by omega) (by omega)
  unfold logY logE
  omega
end Go.Fl
