/- Plain laws of binary floating point: what the operations give, told in units of the least place. -/
import Derived.Test.YtpfjcfhgckpjmaaGreatDoorIe2
namespace Ieee
namespace Format

theorem natAbs_ite (s : Bool) (n : Nat) : (if s = true then -(n : Int) else (n : Int)).natAbs = n := by cases s <;> simp

theorem sv_natAbs (f : Format) (b : Nat) : (f.sv b).natAbs = f.units (f.rungOf b) := natAbs_ite _ _

/-- The sum of two finite words, exactly. -/
theorem sum_fin (f : Format) {x y : Nat} (hx : f.rungOf x < f.infRung) (hy : f.rungOf y < f.infRung) :
    ∃ s mag e, f.add x y = some (f.nearest s mag (f.leastPlace + (e : Nat))) ∧ mag * 2 ^ e = (f.sv x + f.sv y).natAbs ∧
      (f.sv x + f.sv y ≠ 0 → s = decide (f.sv x + f.sv y < 0)) ∧ (f.sv x + f.sv y = 0 → s = (f.isNeg x && f.isNeg y)) := by
  obtain ⟨m, i, hm, um⟩ := f.read_fin hx
  obtain ⟨n, j, hn, un⟩ := f.read_fin hy
  have hbase : min (f.leastPlace + (i : Int)) (f.leastPlace + (j : Int)) = f.leastPlace + ((min i j : Nat) : Int) := by omega
  have e1 : (f.leastPlace + (i : Int) - (f.leastPlace + ((min i j : Nat) : Int))).toNat = i - min i j := by omega
  have e2 : (f.leastPlace + (j : Int) - (f.leastPlace + ((min i j : Nat) : Int))).toNat = j - min i j := by omega
  have p1 : i - min i j + min i j = i := by omega
  have p2 : j - min i j + min i j = j := by omega
  have tot : (signed (f.isNeg x) m (i - min i j) + signed (f.isNeg y) n (j - min i j)) * ((2 ^ min i j : Nat) : Int) = f.sv x + f.sv y := by
    rw [signed_eq, signed_eq, Int.add_mul, Int.mul_assoc, Int.mul_assoc, ← Int.natCast_mul, ← Int.natCast_mul, ← Nat.pow_add, ← Nat.pow_add, p1, p2]
    unfold sv
    rw [← um, ← un]
    cases f.isNeg x <;> cases f.isNeg y <;> simp [Int.neg_mul]
  obtain ⟨T, hT⟩ : ∃ T, T = signed (f.isNeg x) m (i - min i j) + signed (f.isNeg y) n (j - min i j) := ⟨_, rfl⟩
  rw [← hT] at tot
  have hp : (0 : Int) < ((2 ^ min i j : Nat) : Int) := by exact_mod_cast Nat.two_pow_pos _
  refine ⟨if T = 0 then f.isNeg x && f.isNeg y else decide (T < 0), T.natAbs, min i j, ?_, ?_, ?_, ?_⟩
  · unfold add
    rw [hm, hn]
    simp only [Datum.sum, hbase, e1, e2, ← hT, Option.map_some, write]
  · rw [← tot, Int.natAbs_mul, Int.natAbs_natCast]
  · intro h
    have hT0 : T ≠ 0 := by intro h0; rw [h0, Int.zero_mul] at tot; exact h tot.symm
    rw [if_neg hT0, ← tot]
    have : (T * ((2 ^ min i j : Nat) : Int) < 0) ↔ T < 0 := by
      constructor
      · intro h1
        apply Classical.byContradiction
        intro h2
        have := Int.mul_nonneg (show 0 ≤ T by omega) (Int.le_of_lt hp)
        omega
      · intro h1; exact Int.mul_neg_of_neg_of_pos h1 hp
    simp only [this]
  · intro h
    have hT0 : T = 0 := by
      rw [h] at tot
      rcases Int.mul_eq_zero.1 tot with h1 | h1
      · exact h1
      · omega
    rw [if_pos hT0]

theorem read_opp (f : Format) {y : Nat} (hy : f.rungOf y < f.infRung) : ∃ y', (f.read y).opposite = f.read y' ∧ f.rungOf y' = f.rungOf y ∧ f.isNeg y' = !(f.isNeg y) := by
  have hlt := f.rungOf_lt y
  refine ⟨f.word (!(f.isNeg y)) (f.rungOf y), ?_, f.rungOf_word _ hlt, f.isNeg_word _ hlt⟩
  rw [f.read_eq y, f.read_eq, f.rungOf_word _ hlt, f.isNeg_word _ hlt]
  split
  · rfl
  · rfl

theorem sub_fin (f : Format) {x y : Nat} (hx : f.rungOf x < f.infRung) (hy : f.rungOf y < f.infRung) :
    ∃ s mag e, f.sub x y = some (f.nearest s mag (f.leastPlace + (e : Nat))) ∧ mag * 2 ^ e = (f.sv x - f.sv y).natAbs ∧
      (f.sv x - f.sv y ≠ 0 → s = decide (f.sv x - f.sv y < 0)) ∧ (f.sv x - f.sv y = 0 → s = (f.isNeg x && !(f.isNeg y))) := by
  obtain ⟨y', h1, h2, h3⟩ := f.read_opp hy
  have hs : f.sv y' = -(f.sv y) := by unfold sv; rw [h2, h3]; cases f.isNeg y <;> simp
  obtain ⟨s, mag, e, k1, k2, k3, k4⟩ := f.sum_fin hx (y := y') (by omega)
  rw [hs, ← Int.sub_eq_add_neg] at k2 k3 k4
  rw [h3] at k4
  refine ⟨s, mag, e, ?_, k2, k3, k4⟩
  rw [← k1]
  unfold sub add
  rw [h1]

theorem mul_fin (f : Format) {x y : Nat} (hx : f.rungOf x < f.infRung) (hy : f.rungOf y < f.infRung) :
    ∃ mag e, f.mul x y = some (f.nearest (f.isNeg x ^^ f.isNeg y) mag (f.leastPlace + f.leastPlace + (e : Nat))) ∧ mag * 2 ^ e = f.units (f.rungOf x) * f.units (f.rungOf y) := by
  obtain ⟨m, i, hm, um⟩ := f.read_fin hx
  obtain ⟨n, j, hn, un⟩ := f.read_fin hy
  refine ⟨m * n, i + j, ?_, ?_⟩
  · unfold mul
    rw [hm, hn]
    simp only [Datum.product, Option.map_some, write]
    congr 2
    omega
  · rw [Nat.pow_add, ← um, ← un]
    simp only [Nat.mul_assoc, Nat.mul_left_comm]

/-- The sum's magnitude stays below what the format has. -/
theorem nearest_le_e (f : Format) (s : Bool) {mag e R : Nat} (h : mag * 2 ^ e ≤ f.units R) : ∃ r, r ≤ R ∧ f.nearest s mag (f.leastPlace + (e : Nat)) = f.word s r := by
  have e1 : (f.leastPlace + (e : Int) - f.leastPlace).toNat = e := by omega
  have e2 : (f.leastPlace - (f.leastPlace + (e : Int))).toNat = 0 := by omega
  exact f.nearest_le s mag _ (by rw [e1, e2]; simpa using h)

theorem nearest_ge_e (f : Format) (s : Bool) {mag e R : Nat} (hR : R ≤ f.infRung) (h : f.units R ≤ mag * 2 ^ e) : ∃ r, R ≤ r ∧ r ≤ f.infRung ∧ f.nearest s mag (f.leastPlace + (e : Nat)) = f.word s r := by
  have e1 : (f.leastPlace + (e : Int) - f.leastPlace).toNat = e := by omega
  have e2 : (f.leastPlace - (f.leastPlace + (e : Int))).toNat = 0 := by omega
  exact f.nearest_ge s mag _ hR (by rw [e1, e2]; simpa using h)

theorem nearest_eq_e (f : Format) (s : Bool) {mag e R : Nat} (hR : R ≤ f.infRung) (h : mag * 2 ^ e = f.units R) : f.nearest s mag (f.leastPlace + (e : Nat)) = f.word s R := by
  have e1 : (f.leastPlace + (e : Int) - f.leastPlace).toNat = e := by omega
  have e2 : (f.leastPlace - (f.leastPlace + (e : Int))).toNat = 0 := by omega
  exact f.nearest_exact s mag _ R hR (by rw [e1, e2]; simpa using h)

/-- The number 1 in units of the least place. -/
def one (f : Format) : Nat := 2 ^ (-f.leastPlace).toNat

/-- A product's exact magnitude against a word's, at the format's own scale. -/
theorem scale_iff (f : Format) (hl : f.leastPlace ≤ 0) (mag e u : Nat) :
    (mag * 2 ^ (f.leastPlace + f.leastPlace + (e : Int) - f.leastPlace).toNat ≤ u * 2 ^ (f.leastPlace - (f.leastPlace + f.leastPlace + (e : Int))).toNat ↔ mag * 2 ^ e ≤ u * f.one) ∧
    (u * 2 ^ (f.leastPlace - (f.leastPlace + f.leastPlace + (e : Int))).toNat ≤ mag * 2 ^ (f.leastPlace + f.leastPlace + (e : Int) - f.leastPlace).toNat ↔ u * f.one ≤ mag * 2 ^ e) := by
  unfold one
  obtain ⟨c, hc⟩ : ∃ c, c = (-f.leastPlace).toNat := ⟨_, rfl⟩
  rw [← hc]
  have hlc : f.leastPlace = -(c : Int) := by omega
  rw [hlc]
  by_cases h : c ≤ e
  · have e1 : (-(c : Int) + -(c : Int) + (e : Int) - -(c : Int)).toNat = e - c := by omega
    have e2 : (-(c : Int) - (-(c : Int) + -(c : Int) + (e : Int))).toNat = 0 := by omega
    have e3 : 2 ^ e = 2 ^ (e - c) * 2 ^ c := by rw [← Nat.pow_add]; congr 1; omega
    rw [e1, e2, e3, Nat.pow_zero, Nat.mul_one, ← Nat.mul_assoc]
    exact ⟨(Nat.mul_le_mul_right_iff (Nat.two_pow_pos c)).symm, (Nat.mul_le_mul_right_iff (Nat.two_pow_pos c)).symm⟩
  · have e1 : (-(c : Int) + -(c : Int) + (e : Int) - -(c : Int)).toNat = 0 := by omega
    have e2 : (-(c : Int) - (-(c : Int) + -(c : Int) + (e : Int))).toNat = c - e := by omega
    have e3 : 2 ^ c = 2 ^ (c - e) * 2 ^ e := by rw [← Nat.pow_add]; congr 1; omega
    rw [e1, e2, e3, Nat.pow_zero, Nat.mul_one, ← Nat.mul_assoc]
    exact ⟨(Nat.mul_le_mul_right_iff (Nat.two_pow_pos e)).symm, (Nat.mul_le_mul_right_iff (Nat.two_pow_pos e)).symm⟩

theorem mul_le (f : Format) (hl : f.leastPlace ≤ 0) {x y R : Nat} (hx : f.rungOf x < f.infRung) (hy : f.rungOf y < f.infRung)
    (h : f.units (f.rungOf x) * f.units (f.rungOf y) ≤ f.units R * f.one) : ∃ r, r ≤ R ∧ f.mul x y = some (f.word (f.isNeg x ^^ f.isNeg y) r) := by
  obtain ⟨mag, e, h1, h2⟩ := f.mul_fin hx hy
  obtain ⟨r, hr, h3⟩ := f.nearest_le (f.isNeg x ^^ f.isNeg y) mag (f.leastPlace + f.leastPlace + (e : Nat)) (R := R) ((f.scale_iff hl mag e _).1.2 (by rw [h2]; exact h))
  exact ⟨r, hr, by rw [h1, h3]⟩

theorem mul_exact (f : Format) (hl : f.leastPlace ≤ 0) {x y R : Nat} (hx : f.rungOf x < f.infRung) (hy : f.rungOf y < f.infRung) (hR : R ≤ f.infRung)
    (h : f.units (f.rungOf x) * f.units (f.rungOf y) = f.units R * f.one) : f.mul x y = some (f.word (f.isNeg x ^^ f.isNeg y) R) := by
  obtain ⟨mag, e, h1, h2⟩ := f.mul_fin hx hy
  have a1 := (f.scale_iff hl mag e (f.units R)).1.2 (by rw [h2, h]; exact Nat.le_refl _)
  have a2 := (f.scale_iff hl mag e (f.units R)).2.2 (by rw [h2, h]; exact Nat.le_refl _)
  rw [h1, f.nearest_exact _ mag _ R hR (Nat.le_antisymm a1 a2)]

theorem add_le (f : Format) {x y R : Nat} (hx : f.rungOf x < f.infRung) (hy : f.rungOf y < f.infRung)
    (h : (f.sv x + f.sv y).natAbs ≤ f.units R) : ∃ s r, r ≤ R ∧ f.add x y = some (f.word s r) := by
  obtain ⟨s, mag, e, h1, h2, -, -⟩ := f.sum_fin hx hy
  obtain ⟨r, hr, h3⟩ := f.nearest_le_e s (mag := mag) (e := e) (R := R) (by rw [h2]; exact h)
  exact ⟨s, r, hr, by rw [h1, h3]⟩

theorem sub_le (f : Format) {x y R : Nat} (hx : f.rungOf x < f.infRung) (hy : f.rungOf y < f.infRung)
    (h : (f.sv x - f.sv y).natAbs ≤ f.units R) : ∃ s r, r ≤ R ∧ f.sub x y = some (f.word s r) := by
  obtain ⟨s, mag, e, h1, h2, -, -⟩ := f.sub_fin hx hy
  obtain ⟨r, hr, h3⟩ := f.nearest_le_e s (mag := mag) (e := e) (R := R) (by rw [h2]; exact h)
  exact ⟨s, r, hr, by rw [h1, h3]⟩

/-- A power of two is a word's. -/
theorem pow_rung (f : Format) (hE : 1 ≤ f.exponentBits) (E : Nat) (h : E < f.fractionBits + (2 ^ f.exponentBits - 2)) : ∃ R, R < f.infRung ∧ f.units R = 2 ^ E := by
  have h1 : 2 ^ E < f.units f.infRung := by
    rw [f.units_infRung hE]
    exact Nat.pow_lt_pow_right (by decide) h
  obtain ⟨R, h2, h3⟩ := f.exists_rung 1 E (Nat.one_lt_two_pow (by omega)) (by simpa using h1)
  exact ⟨R, h2, by simpa using h3⟩

theorem lt_inf_of_units (f : Format) {r u : Nat} (h : f.units r ≤ u) (hu : u < f.units f.infRung) : r < f.infRung := (f.units_lt_iff).1 (by omega)
end Format
end Ieee
