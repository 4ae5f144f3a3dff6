/- Plain laws of binary floating point: rounding stays on the right side of what the format has. -/
import Derived.Test.YtpfjcfhgckpjmaaGreatDoorIe
namespace Ieee

theorem Toward.cut_le (neg : Bool) {n drop N : Nat} (h : n ≤ N * 2 ^ drop) : Toward.even.cut neg n drop ≤ N := by
  have hp := Nat.two_pow_pos drop
  have hb := (Format.cut_bounds neg n drop).2
  by_cases hr : n % 2 ^ drop = 0
  · have hn : n = n / 2 ^ drop * 2 ^ drop := by
      have := Nat.div_add_mod n (2 ^ drop)
      rw [Nat.mul_comm] at this; omega
    have hle : n / 2 ^ drop ≤ N := by
      rw [hn] at h
      exact Nat.le_of_mul_le_mul_right h hp
    by_cases h0 : n / 2 ^ drop = 0
    · rw [h0] at hn
      have : n = 0 := by simpa using hn
      subst this
      rw [Format.cut_zero]; exact Nat.zero_le _
    · have := Format.cut_exact neg (n / 2 ^ drop) drop (Nat.pos_of_ne_zero h0)
      rw [← hn] at this
      rw [this]; exact hle
  · have : n / 2 ^ drop < N := by
      apply Nat.lt_of_mul_lt_mul_right (a := 2 ^ drop)
      have := Nat.div_add_mod n (2 ^ drop)
      rw [Nat.mul_comm] at this
      omega
    exact Nat.le_trans hb this

theorem Toward.le_cut (neg : Bool) {n drop N : Nat} (h : N * 2 ^ drop ≤ n) : N ≤ Toward.even.cut neg n drop := by
  have hb := (Format.cut_bounds neg n drop).1
  have : N ≤ n / 2 ^ drop := (Nat.le_div_iff_mul_le (Nat.two_pow_pos drop)).2 h
  exact Nat.le_trans this hb

namespace Format

theorem units_form (f : Format) {q kept : Nat} (h1 : kept ≤ 2 * f.binade) (h2 : q = 0 ∨ f.binade ≤ kept) : f.units (q * f.binade + kept) = kept * 2 ^ q := by
  have hB := f.binade_pos
  rcases Nat.lt_or_ge kept f.binade with hk | hk
  · have hq : q = 0 := by rcases h2 with h | h <;> omega
    subst hq
    rw [Nat.zero_mul, Nat.zero_add, f.units_sub hk, Nat.pow_zero, Nat.mul_one]
  · rw [f.units_norm (by omega)]
    rcases Nat.lt_or_ge kept (2 * f.binade) with hk2 | hk2
    · have e1 : q * f.binade + kept = (kept - f.binade) + (q + 1) * f.binade := by rw [Nat.add_mul]; omega
      rw [e1, Nat.add_mul_mod_self_right, Nat.mod_eq_of_lt (by omega), Nat.add_mul_div_right _ _ hB, Nat.div_eq_of_lt (by omega)]
      congr 1
      · omega
      · congr 1; omega
    · have e0 : kept = 2 * f.binade := by omega
      subst e0
      have e1 : q * f.binade + 2 * f.binade = 0 + (q + 2) * f.binade := by rw [Nat.add_mul]; omega
      rw [e1, Nat.add_mul_mod_self_right, Nat.mod_eq_of_lt hB, Nat.add_mul_div_right _ _ hB, Nat.div_eq_of_lt hB]
      have e2 : 0 + (q + 2) - 1 = q + 1 := by omega
      rw [e2, Nat.pow_succ, Nat.add_zero]
      rw [Nat.mul_comm 2 f.binade, Nat.mul_assoc, Nat.mul_comm 2]

theorem units_dvd (f : Format) {q R : Nat} (h : f.binade * 2 ^ q ≤ f.units R) : ∃ N, f.units R = N * 2 ^ q := by
  have hB := f.binade_pos
  by_cases hR : R < f.binade
  · rw [f.units_sub hR] at h ⊢
    have : 1 ≤ 2 ^ q := Nat.one_le_two_pow
    have : f.binade * 1 ≤ f.binade * 2 ^ q := Nat.mul_le_mul_left _ this
    omega
  · rw [f.units_norm (by omega)] at h ⊢
    have hm := Nat.mod_lt R hB
    have h3 : f.binade * 2 ^ q < f.binade * 2 ^ (R / f.binade - 1 + 1) := by
      calc f.binade * 2 ^ q ≤ _ := h
        _ < (2 * f.binade) * 2 ^ (R / f.binade - 1) := Nat.mul_lt_mul_of_pos_right (by omega) (Nat.two_pow_pos _)
        _ = f.binade * 2 ^ (R / f.binade - 1 + 1) := by rw [Nat.pow_succ]; rw [Nat.mul_comm 2, Nat.mul_assoc, Nat.mul_comm 2]
    have h4 : q < R / f.binade - 1 + 1 := (Nat.pow_lt_pow_iff_right (by decide)).1 (Nat.lt_of_mul_lt_mul_left h3)
    refine ⟨(f.binade + R % f.binade) * 2 ^ (R / f.binade - 1 - q), ?_⟩
    rw [Nat.mul_assoc, ← Nat.pow_add]
    congr 2; omega

/-- Where the digits are kept. -/
theorem nearest_form (f : Format) (neg : Bool) (mag : Nat) (place : Int) (hm : mag ≠ 0) :
    ∃ q n drop, f.nearest neg mag place = f.word neg (min (q * f.binade + Toward.even.cut neg n drop) f.infRung) ∧
      n * 2 ^ (q + (f.leastPlace - place).toNat) = mag * 2 ^ (place - f.leastPlace).toNat * 2 ^ drop ∧
      n ≤ 2 * f.binade * 2 ^ drop ∧ (q = 0 ∨ f.binade * 2 ^ drop ≤ n) := by
  have hBF : f.binade = 2 ^ f.fractionBits := rfl
  have hlo := Nat.log2_self_le hm
  have hhi : mag < 2 ^ (mag.log2 + 1) := Nat.lt_log2_self
  unfold nearest
  rw [if_neg hm]
  dsimp only
  obtain ⟨q, hq⟩ : ∃ q : Nat, max (place + (mag.log2 : Int) - (f.fractionBits : Int)) f.leastPlace = f.leastPlace + (q : Int) := ⟨(max (place + (mag.log2 : Int) - (f.fractionBits : Int)) f.leastPlace - f.leastPlace).toNat, by omega⟩
  rw [hq]
  have e0 : (f.leastPlace + (q : Int) - f.leastPlace).toNat = q := by omega
  rw [e0]
  refine ⟨q, _, _, rfl, ?_, ?_, ?_⟩
  · rw [Nat.shiftLeft_eq, Nat.mul_assoc, Nat.mul_assoc, ← Nat.pow_add, ← Nat.pow_add]
    congr 2; omega
  · rw [Nat.shiftLeft_eq]
    calc mag * 2 ^ (place - (f.leastPlace + (q : Int))).toNat ≤ 2 ^ (mag.log2 + 1) * 2 ^ (place - (f.leastPlace + (q : Int))).toNat := Nat.mul_le_mul_right _ (Nat.le_of_lt hhi)
      _ = 2 ^ (mag.log2 + 1 + (place - (f.leastPlace + (q : Int))).toNat) := (Nat.pow_add ..).symm
      _ ≤ 2 ^ (f.fractionBits + 1 + (f.leastPlace + (q : Int) - place).toNat) := Nat.pow_le_pow_right (by decide) (by omega)
      _ = 2 * f.binade * 2 ^ (f.leastPlace + (q : Int) - place).toNat := by rw [Nat.pow_add, Nat.pow_succ, hBF]; rw [Nat.mul_comm 2]
  · by_cases hq0 : q = 0
    · exact .inl hq0
    · right
      rw [Nat.shiftLeft_eq, hBF, ← Nat.pow_add]
      calc 2 ^ (f.fractionBits + (f.leastPlace + (q : Int) - place).toNat) ≤ 2 ^ (mag.log2 + (place - (f.leastPlace + (q : Int))).toNat) := Nat.pow_le_pow_right (by decide) (by omega)
        _ = 2 ^ mag.log2 * 2 ^ (place - (f.leastPlace + (q : Int))).toNat := Nat.pow_add ..
        _ ≤ _ := Nat.mul_le_mul_right _ hlo

theorem form_dvd {f : Format} {q C A drop n mag R : Nat} (hn : n * 2 ^ (q + C) = mag * 2 ^ A * 2 ^ drop) (hq : q = 0 ∨ f.binade * 2 ^ drop ≤ n)
    (h : mag * 2 ^ A ≤ f.units R * 2 ^ C) : ∃ N, f.units R = N * 2 ^ q := by
  rcases hq with h0 | hB
  · subst h0; exact ⟨f.units R, by simp⟩
  · apply f.units_dvd
    apply Nat.le_of_mul_le_mul_right _ (Nat.two_pow_pos C)
    apply Nat.le_of_mul_le_mul_right _ (Nat.two_pow_pos drop)
    calc f.binade * 2 ^ q * 2 ^ C * 2 ^ drop = f.binade * 2 ^ drop * 2 ^ (q + C) := by
          rw [Nat.pow_add]; simp only [Nat.mul_assoc, Nat.mul_comm (2 ^ drop)]
      _ ≤ n * 2 ^ (q + C) := Nat.mul_le_mul_right _ hB
      _ = mag * 2 ^ A * 2 ^ drop := hn
      _ ≤ _ := Nat.mul_le_mul_right _ h

/-- What is at most a word's number is rounded to at most it. -/
theorem nearest_le (f : Format) (neg : Bool) (mag : Nat) (place : Int) {R : Nat}
    (h : mag * 2 ^ (place - f.leastPlace).toNat ≤ f.units R * 2 ^ (f.leastPlace - place).toNat) : ∃ r, r ≤ R ∧ f.nearest neg mag place = f.word neg r := by
  by_cases hm : mag = 0
  · refine ⟨0, Nat.zero_le _, ?_⟩
    unfold nearest; rw [if_pos hm]
  obtain ⟨q, n, drop, h1, hn, h2, h3⟩ := f.nearest_form neg mag place hm
  refine ⟨_, ?_, h1⟩
  obtain ⟨N, hN⟩ := form_dvd hn h3 h
  have hnN : n ≤ N * 2 ^ drop := by
    apply Nat.le_of_mul_le_mul_right _ (Nat.two_pow_pos (q + (f.leastPlace - place).toNat))
    rw [hn]
    calc mag * 2 ^ (place - f.leastPlace).toNat * 2 ^ drop ≤ f.units R * 2 ^ (f.leastPlace - place).toNat * 2 ^ drop := Nat.mul_le_mul_right _ h
      _ = N * 2 ^ drop * 2 ^ (q + (f.leastPlace - place).toNat) := by
        rw [hN, Nat.pow_add]; simp only [Nat.mul_assoc, Nat.mul_comm (2 ^ drop)]
  have hk := Toward.cut_le neg hnN
  have hk2 := Toward.cut_le neg h2
  refine Nat.le_trans (Nat.min_le_left ..) ?_
  rw [← f.units_le_iff, f.units_form hk2 (by rcases h3 with h | h; exact .inl h; exact .inr (Toward.le_cut neg h)), hN]
  exact Nat.mul_le_mul_right _ hk

/-- What is at least a word's number is rounded to at least it. -/
theorem nearest_ge (f : Format) (neg : Bool) (mag : Nat) (place : Int) {R : Nat} (hR : R ≤ f.infRung)
    (h : f.units R * 2 ^ (f.leastPlace - place).toNat ≤ mag * 2 ^ (place - f.leastPlace).toNat) : ∃ r, R ≤ r ∧ r ≤ f.infRung ∧ f.nearest neg mag place = f.word neg r := by
  by_cases hm : mag = 0
  · subst hm
    rw [Nat.zero_mul] at h
    have h0 : f.units R = 0 := by
      have := Nat.two_pow_pos (f.leastPlace - place).toNat
      rcases Nat.mul_eq_zero.1 (Nat.le_zero.1 h) with h4 | h4
      · exact h4
      · omega
    have : R = 0 := f.units_inj (by rw [h0, f.units_zero])
    subst this
    refine ⟨0, Nat.le_refl _, hR, ?_⟩
    unfold nearest; rw [if_pos rfl]
  obtain ⟨q, n, drop, h1, hn, h2, h3⟩ := f.nearest_form neg mag place hm
  refine ⟨_, ?_, Nat.min_le_right .., h1⟩
  refine Nat.le_min.2 ⟨?_, hR⟩
  have hk2 := Toward.cut_le neg h2
  have h4 : q = 0 ∨ f.binade ≤ Toward.even.cut neg n drop := by rcases h3 with h | h; exact .inl h; exact .inr (Toward.le_cut neg h)
  rw [← f.units_le_iff, f.units_form hk2 h4]
  have fin : ∀ N, f.units R = N * 2 ^ q → f.units R ≤ Toward.even.cut neg n drop * 2 ^ q := by
    intro N hN
    have hnN : N * 2 ^ drop ≤ n := by
      apply Nat.le_of_mul_le_mul_right _ (Nat.two_pow_pos (q + (f.leastPlace - place).toNat))
      rw [hn]
      calc N * 2 ^ drop * 2 ^ (q + (f.leastPlace - place).toNat) = f.units R * 2 ^ (f.leastPlace - place).toNat * 2 ^ drop := by
            rw [hN, Nat.pow_add]; simp only [Nat.mul_assoc, Nat.mul_comm (2 ^ drop)]
        _ ≤ _ := Nat.mul_le_mul_right _ h
    rw [hN]
    exact Nat.mul_le_mul_right _ (Toward.le_cut neg hnN)
  rcases h4 with h0 | hB
  · exact fin (f.units R) (by subst h0; simp)
  · by_cases hu : f.binade * 2 ^ q ≤ f.units R
    · obtain ⟨N, hN⟩ := f.units_dvd hu
      exact fin N hN
    · calc f.units R ≤ f.binade * 2 ^ q := by omega
        _ ≤ _ := Nat.mul_le_mul_right _ hB
end Format
end Ieee
