/- Bounds of doubles by powers of two, through the operations: for narrowing without overflow. No program in sight. -/
import Derived.Test.YtpfjcfhgckpjmaaGreatDoorFl
import Derived.Test.YtpfjcfhgckpjmaaGreatDoorIe3
set_option exponentiation.threshold 3000
namespace Go.Fl
open Ieee

theorem dinf : double.units double.infRung = 2 ^ 2098 := double.units_infRung (by decide)
theorem done : double.one = 2 ^ 1074 := rfl
theorem dlp : double.leastPlace = -1074 := by decide

/-- A NaN, or at most 2 ^ E units (1 is 2 ^ 1074 units). -/
def Bd (E : Nat) (v : Option Nat) : Prop := ∀ b, v = some b → double.units (double.rungOf b) ≤ 2 ^ E
/-- A NaN, or no sign, or a zero. -/
def NonNeg (v : Option Nat) : Prop := ∀ b, v = some b → double.isNeg b = false ∨ double.units (double.rungOf b) = 0
/-- A NaN, or at least 1. -/
def Ge1 (v : Option Nat) : Prop := ∀ b, v = some b → double.isNeg b = false ∧ 2 ^ 1074 ≤ double.units (double.rungOf b)
/-- No NaN among what is said (words that are none). -/
def Num (v : Option Nat) : Prop := ∀ b, v = some b → double.nan b = false

theorem two_pow_le {a b : Nat} (h : a ≤ b) : 2 ^ a ≤ 2 ^ b := Nat.pow_le_pow_right (by decide) h
theorem two_pow_lt {a b : Nat} (h : a < b) : 2 ^ a < 2 ^ b := Nat.pow_lt_pow_right (by decide) h

theorem Bd.mono {E E' : Nat} {v : Option Nat} (h : Bd E v) (he : E ≤ E') : Bd E' v := fun b hb => Nat.le_trans (h b hb) (two_pow_le he)
theorem bd_none (E : Nat) : Bd E none := by intro b h; cases h

theorem Bd.fin {E : Nat} {b : Nat} (h : double.units (double.rungOf b) ≤ 2 ^ E) (hE : E < 2098) : double.rungOf b < double.infRung :=
  double.lt_inf_of_units h (by rw [dinf]; exact two_pow_lt hE)

theorem pow_word {E : Nat} (h : E < 2098) : ∃ R, R < double.infRung ∧ double.units R = 2 ^ E := double.pow_rung (by decide) E h

theorem units_word {s : Bool} {r : Nat} (h : r < double.signWeight) : double.units (double.rungOf (double.word s r)) = double.units r := by
  rw [double.rungOf_word s h]

theorem bd_of_word {E R : Nat} (hR : R < double.infRung) (hu : double.units R = 2 ^ E) {s : Bool} {r : Nat} (hr : r ≤ R) : Bd E (some (double.word s r)) := by
  intro b hb
  cases hb
  have := double.infRung_lt
  rw [units_word (by omega), ← hu]
  exact (double.units_le_iff).2 hr

theorem sv_bd {b N : Nat} (h : double.units (double.rungOf b) ≤ N) : -(N : Int) ≤ double.sv b ∧ double.sv b ≤ N := by
  have := double.sv_natAbs b
  omega

theorem bd_add {E : Nat} {x y : Option Nat} (hx : Bd E x) (hy : Bd E y) (hE : E < 2097) : Bd (E + 1) (fop .add .f64 x y) := by
  cases x with
  | none => exact bd_none _
  | some x =>
    cases y with
    | none => exact bd_none _
    | some y =>
      have h1 := hx x rfl
      have h2 := hy y rfl
      obtain ⟨R, hR, hu⟩ := pow_word (E := E + 1) (by omega)
      have b1 := sv_bd h1
      have b2 := sv_bd h2
      have hp : 2 ^ (E + 1) = 2 * 2 ^ E := by rw [Nat.pow_succ]; omega
      obtain ⟨s, r, hr, he⟩ := double.add_le (R := R) (Bd.fin h1 (by omega)) (Bd.fin h2 (by omega)) (by rw [hu, hp]; omega)
      show Bd _ (double.add x y)
      rw [he]
      exact bd_of_word hR hu hr

theorem bd_sub {E : Nat} {x y : Option Nat} (hx : Bd E x) (hy : Bd E y) (hE : E < 2097) : Bd (E + 1) (fop .sub .f64 x y) := by
  cases x with
  | none => exact bd_none _
  | some x =>
    cases y with
    | none => exact bd_none _
    | some y =>
      have h1 := hx x rfl
      have h2 := hy y rfl
      obtain ⟨R, hR, hu⟩ := pow_word (E := E + 1) (by omega)
      have b1 := sv_bd h1
      have b2 := sv_bd h2
      have hp : 2 ^ (E + 1) = 2 * 2 ^ E := by rw [Nat.pow_succ]; omega
      obtain ⟨s, r, hr, he⟩ := double.sub_le (R := R) (Bd.fin h1 (by omega)) (Bd.fin h2 (by omega)) (by rw [hu, hp]; omega)
      show Bd _ (double.sub x y)
      rw [he]
      exact bd_of_word hR hu hr

theorem bd_mul {A B C : Nat} {x y : Option Nat} (hx : Bd A x) (hy : Bd B y) (h : A + B ≤ C + 1074) (hA : A < 2098) (hB : B < 2098) (hC : C < 2098) : Bd C (fop .mul .f64 x y) := by
  cases x with
  | none => exact bd_none _
  | some x =>
    cases y with
    | none => exact bd_none _
    | some y =>
      have h1 := hx x rfl
      have h2 := hy y rfl
      obtain ⟨R, hR, hu⟩ := pow_word hC
      obtain ⟨r, hr, he⟩ := double.mul_le (R := R) (by rw [dlp]; decide) (Bd.fin h1 hA) (Bd.fin h2 hB) (by
        rw [hu, done, ← Nat.pow_add]
        calc _ ≤ 2 ^ A * 2 ^ B := Nat.mul_le_mul h1 h2
          _ = 2 ^ (A + B) := (Nat.pow_add ..).symm
          _ ≤ _ := two_pow_le h)
      show Bd _ (double.mul x y)
      rw [he]
      exact bd_of_word hR hu hr

theorem narrowOk_of_bd {E : Nat} {v : Option Nat} (h : Bd E v) (hE : E ≤ 1200) : NarrowOk v := by
  intro b hb hf
  have hu := h b hb
  obtain ⟨m, e, hr, um⟩ := double.read_fin hf
  obtain ⟨R, hR, huR⟩ := single.pow_rung (by decide) 275 (by decide)
  rw [hr]
  have hle : m * 2 ^ e ≤ 2 ^ 1200 := by rw [um]; exact Nat.le_trans hu (two_pow_le hE)
  have hsl : single.leastPlace = -149 := by decide
  obtain ⟨r, hrr, hw⟩ := single.nearest_le (double.isNeg b) m (double.leastPlace + (e : Nat)) (R := R) (by
    rw [huR, dlp, hsl]
    by_cases h1 : 925 ≤ e
    · have e1 : (-1074 + (e : Int) - -149).toNat = e - 925 := by omega
      have e2 : (-149 - (-1074 + (e : Int))).toNat = 0 := by omega
      rw [e1, e2, Nat.pow_zero, Nat.mul_one]
      apply Nat.le_of_mul_le_mul_right _ (Nat.two_pow_pos 925)
      rw [Nat.mul_assoc, ← Nat.pow_add, ← Nat.pow_add]
      have e3 : e - 925 + 925 = e := by omega
      rw [e3]; exact hle
    · have e1 : (-1074 + (e : Int) - -149).toNat = 0 := by omega
      have e2 : (-149 - (-1074 + (e : Int))).toNat = 925 - e := by omega
      rw [e1, e2, Nat.pow_zero, Nat.mul_one]
      apply Nat.le_of_mul_le_mul_right _ (Nat.two_pow_pos e)
      rw [Nat.mul_assoc, ← Nat.pow_add, ← Nat.pow_add]
      have e3 : 275 + (925 - e + e) = 1200 := by omega
      rw [e3]; exact hle)
  show (single.read (single.nearest _ _ _)).isInfinity = false
  have hlt := single.infRung_lt
  rw [hw, is_inf_iff single (by decide), single.rungOf_word _ (by omega)]
  simp
  omega

theorem nonneg_sq (v : Option Nat) : NonNeg (fop .mul .f64 v v) := by
  cases v with
  | none => intro b h; cases h
  | some x =>
    intro b hb
    have hb' : double.mul x x = some b := hb
    unfold Format.mul at hb'
    cases hx : double.read x with
    | nan s f => rw [hx] at hb'; cases hb'
    | infinity s =>
      rw [hx] at hb'
      simp only [Datum.product, Option.map_some, Option.some.injEq, Format.write, Bool.xor_self] at hb'
      left; rw [← hb']; exact double.isNeg_word _ double.infRung_lt
    | number s m e =>
      rw [hx] at hb'
      simp only [Datum.product, Option.map_some, Option.some.injEq, Format.write, Bool.xor_self] at hb'
      left; rw [← hb']
      obtain ⟨r, -, hr, hw⟩ := double.nearest_ge false (m * m) (e + e) (R := 0) (Nat.zero_le _) (by rw [double.units_zero]; simp)
      have := double.infRung_lt
      rw [hw]; exact double.isNeg_word _ (by omega)

theorem ge1_one_add {one v : Option Nat} (h1 : one = some (4607182418800017408)) (hn : Num v) (h : NonNeg v) : Ge1 (fop .add .f64 one v) := by
  subst h1
  cases v with
  | none => intro b h; cases h
  | some y =>
    have hny := hn y rfl
    have h0 := h y rfl
    have hs1 : double.isNeg 4607182418800017408 = false := by decide
    have hu1 : double.units (double.rungOf 4607182418800017408) = 2 ^ 1074 := by decide +kernel
    have hf1 : double.rungOf 4607182418800017408 < double.infRung := by decide
    have hv1 : double.sv 4607182418800017408 = ((2 ^ 1074 : Nat) : Int) := by
      unfold Format.sv; rw [hs1, hu1]; rfl
    obtain ⟨R, hR, huR⟩ := pow_word (E := 1074) (by decide)
    have hlt := double.infRung_lt
    intro b hb
    have hb' : double.add 4607182418800017408 y = some b := hb
    by_cases hf : double.rungOf y < double.infRung
    · obtain ⟨s, mag, e, k1, k2, k3, -⟩ := double.sum_fin hf1 hf
      have hvy : 0 ≤ double.sv y := by
        unfold Format.sv
        rcases h0 with h0 | h0
        · rw [h0]; simp
        · rw [h0]; split <;> simp
      have hpos : (0 : Int) < ((2 ^ 1074 : Nat) : Int) := by exact_mod_cast Nat.two_pow_pos _
      rw [hv1] at k2 k3
      obtain ⟨r, hr1, hr2, hw⟩ := double.nearest_ge_e s (mag := mag) (e := e) (Nat.le_of_lt hR) (by rw [k2, huR]; omega)
      rw [k1, hw] at hb'
      cases hb'
      have hsf : s = false := by rw [k3 (by omega)]; simp; omega
      rw [double.isNeg_word _ (by omega), units_word (by omega)]
      exact ⟨hsf, by rw [← huR]; exact (double.units_le_iff).2 hr1⟩
    · have hi : double.rungOf y = double.infRung := by
        rw [double.nan_iff (by decide)] at hny
        have : double.rungOf y ≤ double.infRung := by simpa using hny
        omega
      have hsy : double.isNeg y = false := by
        rcases h0 with h0 | h0
        · exact h0
        · rw [hi, dinf] at h0
          have := Nat.two_pow_pos 2098
          omega
      obtain ⟨m, e, hr, -⟩ := double.read_fin hf1
      unfold Format.add at hb'
      rw [hr, double.read_inf (by decide) hi, hsy] at hb'
      simp only [Datum.sum, Option.map_some, Option.some.injEq, Format.write] at hb'
      rw [← hb', double.isNeg_word _ hlt, units_word hlt, dinf]
      exact ⟨rfl, two_pow_le (by decide)⟩

theorem word_nonneg {b : Nat} {r : Nat} (hr : r ≤ double.infRung) (h : double.word false r = b) : double.isNeg b = false := by
  have := double.infRung_lt
  rw [← h]; exact double.isNeg_word _ (by omega)

def fsqrt : Option Nat → Option Nat
  | some x => double.sqrt x
  | none => none

theorem nonneg_sqrt (v : Option Nat) : NonNeg (fsqrt v) := by
  cases v with
  | none => intro b h; cases h
  | some x =>
    intro b hb
    have hb' : double.sqrt x = some b := hb
    unfold Format.sqrt at hb'
    cases hx : double.read x with
    | nan s f => rw [hx] at hb'; cases hb'
    | infinity s =>
      rw [hx] at hb'
      simp only [Datum.root] at hb'
      cases s
      · simp only [Bool.false_eq_true, if_false, Option.map_some, Option.some.injEq, Format.write] at hb'
        left; rw [← hb']; exact double.isNeg_word _ double.infRung_lt
      · simp at hb'
    | number s m e =>
      rw [hx] at hb'
      simp only [Datum.root] at hb'
      by_cases hm : m = 0
      · rw [if_pos hm] at hb'
        simp only [Option.map_some, Option.some.injEq, Format.write] at hb'
        right
        subst hm
        have : double.nearest s 0 e = double.word s 0 := by unfold Format.nearest; rw [if_pos rfl]
        rw [this] at hb'
        rw [← hb', units_word double.signWeight_pos, double.units_zero]
      · rw [if_neg hm] at hb'
        cases s
        · simp only [Bool.false_eq_true, if_false, Option.map_some, Option.some.injEq, Format.write] at hb'
          left
          obtain ⟨r, -, hr, hw⟩ := double.nearest_ge false _ _ (R := 0) (Nat.zero_le _) (by rw [double.units_zero]; simp)
          rw [hw] at hb'
          exact word_nonneg hr hb'
        · simp at hb'
end Go.Fl
