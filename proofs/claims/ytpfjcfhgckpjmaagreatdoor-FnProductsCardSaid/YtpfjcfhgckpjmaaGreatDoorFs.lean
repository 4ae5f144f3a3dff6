/- Plain laws of the square root of a double. No program in sight. -/
import Derived.Test.YtpfjcfhgckpjmaaGreatDoorFl2
set_option exponentiation.threshold 3000
namespace Ieee
theorem rootFrom_sq (n : Nat) : ∀ (todo root : Nat), root * root ≤ n → Datum.rootFrom n todo root * Datum.rootFrom n todo root ≤ n
  | 0, root, h => h
  | todo + 1, root, h => by
    unfold Datum.rootFrom
    dsimp only
    split
    · rename_i h1; exact rootFrom_sq n todo _ h1
    · exact rootFrom_sq n todo _ h
end Ieee
namespace Go.Fl
open Ieee

theorem sqrt_val (x : Nat) : double.sqrt x = fsqrt (val .f64 x) := by
  unfold val
  by_cases h : FloatKind.f64.format.nan x = true
  · rw [if_pos h]
    show double.sqrt x = none
    unfold Format.sqrt
    have h' : (double.read x).isNaN = true := h
    cases hx : double.read x <;> rw [hx] at h' <;> simp [Datum.isNaN] at h'
    rfl
  · rw [if_neg h]; rfl

theorem sqrt_is {x r : Nat} (h : double.sqrt x = some r) : Is .f64 r (some r) := by
  unfold Format.sqrt at h
  cases hx : (double.read x).root (double.fractionBits + 2) with
  | none => rw [hx] at h; cases h
  | some d =>
    rw [hx] at h
    cases h
    exact Is.of_write (k := .f64) (root_not_nan hx)

theorem bd_sqrt {x : Nat} {E : Nat} (hE : E < 1000) (hf : double.rungOf x < double.infRung) (hx : double.units (double.rungOf x) ≤ 2 ^ (1074 + 2 * E)) : Bd (1074 + E + 1) (fsqrt (some x)) := by
  intro b hb
  have hb' : double.sqrt x = some b := hb
  obtain ⟨m, e, hr, um⟩ := double.read_fin hf
  unfold Format.sqrt at hb'
  rw [hr] at hb'
  simp only [Datum.root] at hb'
  obtain ⟨R, hR, hu⟩ := pow_word (E := 1074 + E + 1) (by omega)
  by_cases hm : m = 0
  · rw [if_pos hm] at hb'
    simp only [Option.map_some, Option.some.injEq, Format.write] at hb'
    subst hm
    have : ∀ s e, double.nearest s 0 e = double.word s 0 := by intro s e; unfold Format.nearest; rw [if_pos rfl]
    rw [this] at hb'
    rw [← hb', units_word double.signWeight_pos, double.units_zero]
    exact Nat.zero_le _
  · rw [if_neg hm] at hb'
    cases hs : double.isNeg x with
    | true => rw [hs] at hb'; simp at hb'
    | false =>
      rw [hs] at hb'
      simp only [Bool.false_eq_true, if_false, Option.map_some, Option.some.injEq, Format.write] at hb'
      -- the digits that are added
      obtain ⟨mo, hmo⟩ : ∃ mo, mo = 2 * (double.fractionBits + 2) - m.log2 + (((double.leastPlace + (e : Int)) - ((2 * (double.fractionBits + 2) - m.log2 : Nat) : Int)) % 2).toNat := ⟨_, rfl⟩
      rw [← hmo] at hb'
      obtain ⟨wh, hwh⟩ : ∃ wh, wh = Datum.rootFrom (m <<< mo) ((m <<< mo).log2 / 2 + 1) 0 := ⟨_, rfl⟩
      rw [← hwh] at hb'
      have hsq : wh * wh ≤ m <<< mo := by rw [hwh]; exact rootFrom_sq _ _ 0 (Nat.zero_le _)
      obtain ⟨st, hst⟩ : ∃ st, st = (wh * wh != m <<< mo).toNat := ⟨_, rfl⟩
      rw [← hst] at hb'
      have hst1 : st ≤ 1 := by rw [hst]; cases (wh * wh != m <<< mo) <;> decide
      have hlp : double.leastPlace = -1074 := by decide
      rw [hlp] at hb' hmo
      have heven : ∃ h : Int, (-1074 + (e : Int) - (mo : Int)) = 2 * h := ⟨(-1074 + (e : Int) - (mo : Int)) / 2, by omega⟩
      obtain ⟨h, hh⟩ := heven
      have hhalf : (-1074 + (e : Int) - (mo : Int)) / 2 - 1 = h - 1 := by omega
      rw [hhalf] at hb'
      -- the number below 2 ^ (2 E)
      have hle : m * 2 ^ e ≤ 2 ^ (1074 + 2 * E) := by rw [um]; exact hx
      have hK : 0 ≤ (E : Int) - h := by
        apply Classical.byContradiction
        intro hneg
        have h1 : 2 ^ (1074 + 2 * E) < 2 ^ e := two_pow_lt (by omega)
        have h2 : 2 ^ e ≤ m * 2 ^ e := Nat.le_mul_of_pos_left _ (by omega)
        omega
      obtain ⟨K, hKe⟩ : ∃ K : Nat, (K : Int) = (E : Int) - h := ⟨((E : Int) - h).toNat, by omega⟩
      have hn : m <<< mo ≤ 2 ^ (2 * K) := by
        rw [Nat.shiftLeft_eq]
        apply Nat.le_of_mul_le_mul_right _ (Nat.two_pow_pos e)
        calc m * 2 ^ mo * 2 ^ e = m * 2 ^ e * 2 ^ mo := by simp only [Nat.mul_assoc, Nat.mul_comm (2 ^ mo)]
          _ ≤ 2 ^ (1074 + 2 * E) * 2 ^ mo := Nat.mul_le_mul_right _ hle
          _ = 2 ^ (2 * K) * 2 ^ e := by rw [← Nat.pow_add, ← Nat.pow_add]; congr 1; omega
      have hwK : wh ≤ 2 ^ K := by
        apply Classical.byContradiction
        intro hgt
        have h1 : 2 ^ K < wh := by omega
        have h2 : 2 ^ K * 2 ^ K < wh * wh := Nat.mul_lt_mul'' h1 h1
        rw [← Nat.pow_add, show K + K = 2 * K by omega] at h2
        omega
      have hmag : 2 * wh + st ≤ 2 ^ (K + 2) := by
        have : 2 ^ (K + 2) = 4 * 2 ^ K := by rw [Nat.pow_add]; omega
        have := Nat.two_pow_pos K
        omega
      obtain ⟨r, hr1, hw⟩ := double.nearest_le false (2 * wh + st) (h - 1) (R := R) (by
        rw [hu, hlp]
        by_cases hc : -1074 ≤ h - 1
        · have e2 : (-1074 - (h - 1)).toNat = 0 := by omega
          rw [e2, Nat.pow_zero, Nat.mul_one]
          calc (2 * wh + st) * 2 ^ (h - 1 - -1074).toNat ≤ 2 ^ (K + 2) * 2 ^ (h - 1 - -1074).toNat := Nat.mul_le_mul_right _ hmag
            _ = 2 ^ (1074 + E + 1) := by rw [← Nat.pow_add]; congr 1; omega
        · have e2 : (h - 1 - -1074).toNat = 0 := by omega
          rw [e2, Nat.pow_zero, Nat.mul_one, ← Nat.pow_add]
          exact Nat.le_trans hmag (two_pow_le (by omega)))
      rw [hw] at hb'
      have := bd_of_word hR hu (s := false) hr1
      exact this b (by rw [hb'])

/-- The root of a single is no greater than singles are. -/
theorem root_narrow (b : Nat) : NarrowOk (fsqrt (widen (val .f32 b))) := by
  by_cases hn : single.nan b = true
  · rw [val_nan (k := .f32) hn]
    intro c hc; cases hc
  · have hn' : single.nan b = false := by simpa using hn
    rw [val_num (k := .f32) hn']
    by_cases hf : single.rungOf b < single.infRung
    · obtain ⟨rd, h1, h2, h3⟩ := widen_word hf
      unfold widen
      rw [Option.map_some, h3]
      have hlt := double.infRung_lt
      have hw : double.rungOf (double.word (single.isNeg b) rd) = rd := double.rungOf_word _ (by omega)
      refine narrowOk_of_bd (bd_sqrt (E := 64) (by omega) (by rw [hw]; exact h1) ?_) (by omega)
      rw [hw, h2]
      have := (single.units_lt_iff).2 hf
      rw [single.units_infRung (by decide)] at this
      calc single.units (single.rungOf b) * 2 ^ 925 ≤ 2 ^ (single.fractionBits + (2 ^ single.exponentBits - 2)) * 2 ^ 925 := Nat.mul_le_mul_right _ (Nat.le_of_lt this)
        _ = 2 ^ (1074 + 2 * 64) := by rw [← Nat.pow_add]; rfl
    · have hi : single.rungOf b = single.infRung := by
        rw [single.nan_iff (by decide)] at hn'
        have : single.rungOf b ≤ single.infRung := by simpa using hn'
        omega
      intro c hc hcf
      exfalso
      have hc' : double.sqrt (double.write (single.read b)) = some c := hc
      have hlt := double.infRung_lt
      have hwr : double.write (single.read b) = double.word (single.isNeg b) double.infRung := by
        rw [single.read_inf (by decide) hi]; rfl
      have hrd : double.read (double.word (single.isNeg b) double.infRung) = .infinity (single.isNeg b) := by
        rw [double.read_inf (by decide) (double.rungOf_word _ hlt), double.isNeg_word _ hlt]
      unfold Format.sqrt at hc'
      rw [hwr, hrd] at hc'
      cases hs : single.isNeg b with
      | true => rw [hs] at hc'; simp [Datum.root] at hc'
      | false =>
        rw [hs] at hc'
        simp only [Datum.root, Bool.false_eq_true, if_false, Option.map_some, Option.some.injEq, Format.write] at hc'
        rw [← hc', double.rungOf_word _ hlt] at hcf
        omega
end Go.Fl
