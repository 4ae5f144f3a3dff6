/- Plain laws of binary floating point over the kit's Ieee words: what a word's units are, exactness, order. No program in sight. -/
import Derived.Laws.FloatBits
namespace Ieee
namespace Format

/-- The magnitude of a rung in units of the least place (infinity counts as the next power of two). -/
def units (f : Format) (rung : Nat) : Nat :=
  if rung < f.binade then rung else (f.binade + rung % f.binade) * 2 ^ (rung / f.binade - 1)

def isNeg (f : Format) (b : Nat) : Bool := b / f.signWeight % 2 == 1
def rungOf (f : Format) (b : Nat) : Nat := b % f.signWeight
def nan (f : Format) (b : Nat) : Bool := (f.read b).isNaN
/-- The signed units of a word. -/
def sv (f : Format) (b : Nat) : Int := if f.isNeg b then -(f.units (f.rungOf b) : Int) else (f.units (f.rungOf b) : Int)

theorem binade_pos (f : Format) : 0 < f.binade := Nat.two_pow_pos _
theorem signWeight_pos (f : Format) : 0 < f.signWeight := Nat.two_pow_pos _

theorem isNeg_word (f : Format) (neg : Bool) {rung : Nat} (h : rung < f.signWeight) : f.isNeg (f.word neg rung) = neg := by
  have hs := f.signWeight_pos
  have e : (f.signWeight + rung) / f.signWeight = 1 := by
    rw [Nat.add_div_left _ hs, Nat.div_eq_of_lt h]
  cases neg <;> simp [isNeg, word, Nat.div_eq_of_lt h, e]

theorem rungOf_word (f : Format) (neg : Bool) {rung : Nat} (h : rung < f.signWeight) : f.rungOf (f.word neg rung) = rung := by
  cases neg <;> simp [rungOf, word, Nat.mod_eq_of_lt h]

theorem rungOf_lt (f : Format) (b : Nat) : f.rungOf b < f.signWeight := Nat.mod_lt _ f.signWeight_pos

theorem word_of (f : Format) {b : Nat} (h : b < 2 ^ f.width) : f.word (f.isNeg b) (f.rungOf b) = b := by
  have two : 2 ^ f.width = 2 * f.signWeight := by
    unfold width signWeight
    rw [Nat.add_assoc, Nat.add_comm 1, Nat.pow_succ, Nat.mul_comm]
  have hs := f.signWeight_pos
  have hd : b / f.signWeight < 2 := by
    rw [Nat.div_lt_iff_lt_mul hs]; omega
  have hb := Nat.div_add_mod b f.signWeight
  unfold word isNeg rungOf
  have : b / f.signWeight = 0 ∨ b / f.signWeight = 1 := by
    generalize b / f.signWeight = q at hd
    omega
  rcases this with h0 | h1
  · rw [h0] at hb ⊢
    simp at hb ⊢; omega
  · rw [h1] at hb ⊢
    simp at hb ⊢; omega

theorem read_eq (f : Format) (b : Nat) : f.read b =
    if f.rungOf b < f.binade then .number (f.isNeg b) (f.rungOf b) f.leastPlace
    else if f.rungOf b < f.infRung then .number (f.isNeg b) (f.binade + f.rungOf b % f.binade) (f.leastPlace + (f.rungOf b / f.binade - 1 : Nat))
    else if f.rungOf b = f.infRung then .infinity (f.isNeg b) else .nan (f.isNeg b) (f.rungOf b - f.infRung) := rfl

theorem infRung_ge (f : Format) (h : 1 ≤ f.exponentBits) : f.binade ≤ f.infRung := by
  have h1 : 2 ^ 1 ≤ 2 ^ f.exponentBits := Nat.pow_le_pow_right (by decide) h
  unfold infRung
  calc f.binade = 1 * f.binade := (Nat.one_mul _).symm
    _ ≤ _ := Nat.mul_le_mul_right _ (by omega)

theorem nan_iff (f : Format) (h : 1 ≤ f.exponentBits) (b : Nat) : f.nan b = decide (f.infRung < f.rungOf b) := by
  have hi := f.infRung_ge h
  unfold nan
  rw [read_eq]
  split
  · simp [Datum.isNaN]; omega
  · split
    · simp [Datum.isNaN]; omega
    · split
      · simp [Datum.isNaN]; omega
      · simp [Datum.isNaN]; omega

/-- A finite word read: a number whose magnitude is its units. -/
theorem read_fin (f : Format) {b : Nat} (h : f.rungOf b < f.infRung) :
    ∃ m e, f.read b = .number (f.isNeg b) m (f.leastPlace + (e : Nat)) ∧ m * 2 ^ e = f.units (f.rungOf b) := by
  rw [read_eq]
  by_cases h1 : f.rungOf b < f.binade
  · refine ⟨f.rungOf b, 0, ?_, ?_⟩
    · rw [if_pos h1]; simp
    · simp [units, h1]
  · refine ⟨_, _, by rw [if_neg h1, if_pos h], ?_⟩
    simp [units, h1]

theorem read_inf (f : Format) (hE : 1 ≤ f.exponentBits) {b : Nat} (h : f.rungOf b = f.infRung) : f.read b = .infinity (f.isNeg b) := by
  have hi := f.infRung_ge hE
  rw [read_eq, if_neg (by omega), if_neg (by omega), if_pos h]

theorem write_not_nan (f : Format) (hE : 1 ≤ f.exponentBits) (d : Datum) (h : d.isNaN = false) : f.nan (f.write d) = false := by
  have key : ∀ (neg : Bool) (r : Nat), r ≤ f.infRung → f.nan (f.word neg r) = false := by
    intro neg r hr
    have := f.infRung_lt
    rw [nan_iff f hE, rungOf_word f neg (by omega)]
    simp; omega
  cases d with
  | number neg mag place =>
    unfold write nearest
    dsimp only
    split
    · exact key _ _ (Nat.zero_le _)
    · exact key _ _ (Nat.min_le_right ..)
  | infinity neg => exact key _ _ (Nat.le_refl _)
  | nan neg fr => simp [Datum.isNaN] at h

/-! ### units are strictly increasing -/
theorem units_step (f : Format) {a b : Nat} (h : a < b) : f.units a < f.units b := by
  have hB := f.binade_pos
  unfold units
  by_cases ha : a < f.binade
  · rw [if_pos ha]
    by_cases hb : b < f.binade
    · rw [if_pos hb]; exact h
    · rw [if_neg hb]
      have : 1 ≤ 2 ^ (b / f.binade - 1) := Nat.one_le_two_pow
      calc a < f.binade := ha
        _ ≤ (f.binade + b % f.binade) * 1 := by omega
        _ ≤ _ := Nat.mul_le_mul_left _ this
  · have hb : ¬ b < f.binade := by omega
    rw [if_neg ha, if_neg hb]
    have ea := Nat.div_add_mod a f.binade
    have eb := Nat.div_add_mod b f.binade
    have ra := Nat.mod_lt a hB
    have rb := Nat.mod_lt b hB
    have qa : 1 ≤ a / f.binade := by rw [Nat.le_div_iff_mul_le hB]; omega
    have hq : a / f.binade ≤ b / f.binade := Nat.div_le_div_right (Nat.le_of_lt h)
    by_cases hqq : a / f.binade = b / f.binade
    · rw [hqq] at ea ⊢
      exact Nat.mul_lt_mul_of_pos_right (by omega) (Nat.two_pow_pos _)
    · have hlt : a / f.binade - 1 + 1 ≤ b / f.binade - 1 := by omega
      have hp : 2 ^ (a / f.binade - 1 + 1) ≤ 2 ^ (b / f.binade - 1) := Nat.pow_le_pow_right (by decide) hlt
      calc (f.binade + a % f.binade) * 2 ^ (a / f.binade - 1)
          < (2 * f.binade) * 2 ^ (a / f.binade - 1) := Nat.mul_lt_mul_of_pos_right (by omega) (Nat.two_pow_pos _)
        _ = f.binade * 2 ^ (a / f.binade - 1 + 1) := by rw [Nat.pow_succ]; rw [Nat.mul_comm 2, Nat.mul_assoc, Nat.mul_comm 2]
        _ ≤ f.binade * 2 ^ (b / f.binade - 1) := Nat.mul_le_mul_left _ hp
        _ ≤ _ := Nat.mul_le_mul_right _ (by omega)

theorem units_lt_iff (f : Format) {a b : Nat} : f.units a < f.units b ↔ a < b := by
  constructor
  · intro h
    apply Classical.byContradiction
    intro hn
    rcases Nat.lt_or_ge b a with h1 | h1
    · have := f.units_step h1; omega
    · have : a = b := by omega
      subst this; omega
  · exact f.units_step

theorem units_inj (f : Format) {a b : Nat} (h : f.units a = f.units b) : a = b := by
  apply Classical.byContradiction
  intro hn
  rcases Nat.lt_or_gt_of_ne hn with h1 | h1
  · have := f.units_step h1; omega
  · have := f.units_step h1; omega

theorem units_le_iff (f : Format) {a b : Nat} : f.units a ≤ f.units b ↔ a ≤ b := by
  rw [← Nat.not_lt, ← Nat.not_lt, f.units_lt_iff]

theorem units_zero (f : Format) : f.units 0 = 0 := by
  unfold units; rw [if_pos f.binade_pos]

/-! ### order -/
theorem compare_scale (a b : Int) (k : Nat) : compare (a * (2 ^ k : Nat)) (b * (2 ^ k : Nat)) = compare a b := by
  have hp : (0 : Int) < ((2 ^ k : Nat) : Int) := by exact_mod_cast Nat.two_pow_pos k
  rcases Int.lt_trichotomy a b with h | h | h
  · rw [(Int.compare_eq_lt).2 h, (Int.compare_eq_lt).2 (Int.mul_lt_mul_of_pos_right h hp)]
  · subst h; simp
  · rw [(Int.compare_eq_gt).2 h, (Int.compare_eq_gt).2 (Int.mul_lt_mul_of_pos_right h hp)]

theorem signed_eq (neg : Bool) (m k : Nat) : signed neg m k = (if neg then -(m : Int) else (m : Int)) * ((2 ^ k : Nat) : Int) := by
  unfold signed
  cases neg <;> simp [Nat.shiftLeft_eq, Int.neg_mul]

/-- A finite word: its magnitude in signed form, at any place not above its own. -/
theorem order_fin (f : Format) {x y : Nat} (hx : f.rungOf x < f.infRung) (hy : f.rungOf y < f.infRung) : f.order x y = some (compare (f.sv x) (f.sv y)) := by
  obtain ⟨m, i, hm, um⟩ := f.read_fin hx
  obtain ⟨n, j, hn, un⟩ := f.read_fin hy
  unfold order
  rw [hm, hn]
  show some (compare (signed _ m _) (signed _ n _)) = _
  rw [signed_eq, signed_eq]
  have hbase : min (f.leastPlace + (i : Int)) (f.leastPlace + (j : Int)) = f.leastPlace + ((min i j : Nat) : Int) := by omega
  rw [hbase]
  have e1 : (f.leastPlace + (i : Int) - (f.leastPlace + ((min i j : Nat) : Int))).toNat = i - min i j := by omega
  have e2 : (f.leastPlace + (j : Int) - (f.leastPlace + ((min i j : Nat) : Int))).toNat = j - min i j := by omega
  rw [e1, e2, ← compare_scale _ _ (min i j)]
  have p1 : i - min i j + min i j = i := by omega
  have p2 : j - min i j + min i j = j := by omega
  congr 1
  have q1 : ∀ (s : Bool), (if s = true then -(m : Int) else (m : Int)) * ((2 ^ (i - min i j) : Nat) : Int) * ((2 ^ min i j : Nat) : Int) = if s then -(f.units (f.rungOf x) : Int) else (f.units (f.rungOf x) : Int) := by
    intro s
    rw [Int.mul_assoc, ← Int.natCast_mul, ← Nat.pow_add, p1, ← um]
    cases s <;> simp [Int.neg_mul]
  have q2 : ∀ (s : Bool), (if s = true then -(n : Int) else (n : Int)) * ((2 ^ (j - min i j) : Nat) : Int) * ((2 ^ min i j : Nat) : Int) = if s then -(f.units (f.rungOf y) : Int) else (f.units (f.rungOf y) : Int) := by
    intro s
    rw [Int.mul_assoc, ← Int.natCast_mul, ← Nat.pow_add, p2, ← un]
    cases s <;> simp [Int.neg_mul]
  rw [q1, q2]
  rfl

theorem order_sv (f : Format) (hE : 1 ≤ f.exponentBits) {x y : Nat} (hx : f.nan x = false) (hy : f.nan y = false) : f.order x y = some (compare (f.sv x) (f.sv y)) := by
  rw [nan_iff f hE] at hx hy
  have hx' : f.rungOf x ≤ f.infRung := by simpa using hx
  have hy' : f.rungOf y ≤ f.infRung := by simpa using hy
  have hui : 0 < f.units f.infRung := by
    have := f.infRung_ge hE
    have hB := f.binade_pos
    have := (f.units_lt_iff (a := 0) (b := f.infRung)).2 (by omega)
    omega
  by_cases h1 : f.rungOf x < f.infRung
  · by_cases h2 : f.rungOf y < f.infRung
    · exact f.order_fin h1 h2
    · have h2' : f.rungOf y = f.infRung := by omega
      obtain ⟨m, i, hm, um⟩ := f.read_fin h1
      have hu := (f.units_lt_iff).2 h1
      unfold order
      rw [hm, f.read_inf hE h2']
      unfold sv
      rw [h2']
      cases f.isNeg y <;> cases f.isNeg x <;> simp [Datum.order] <;> first | (apply Eq.symm; rw [Int.compare_eq_lt]; omega) | (apply Eq.symm; rw [Int.compare_eq_gt]; omega)
  · have h1' : f.rungOf x = f.infRung := by omega
    by_cases h2 : f.rungOf y < f.infRung
    · obtain ⟨m, i, hm, um⟩ := f.read_fin h2
      have hu := (f.units_lt_iff).2 h2
      unfold order
      rw [hm, f.read_inf hE h1']
      unfold sv
      rw [h1']
      cases f.isNeg y <;> cases f.isNeg x <;> simp [Datum.order] <;> first | (apply Eq.symm; rw [Int.compare_eq_lt]; omega) | (apply Eq.symm; rw [Int.compare_eq_gt]; omega)
    · have h2' : f.rungOf y = f.infRung := by omega
      unfold order
      rw [f.read_inf hE h2', f.read_inf hE h1']
      unfold sv
      rw [h1', h2']
      cases f.isNeg y <;> cases f.isNeg x <;> simp [Datum.order] <;> first | rfl | (rw [(Int.compare_eq_lt).2 (show _ < _ by omega)]; rfl) | (rw [(Int.compare_eq_gt).2 (show _ < _ by omega)]; rfl)

theorem order_nan_left (f : Format) {x y : Nat} (h : f.nan x = true) : f.order x y = none := by
  unfold nan at h
  unfold order
  cases hx : f.read x with
  | nan => cases f.read y <;> rfl
  | number => rw [hx] at h; simp [Datum.isNaN] at h
  | infinity => rw [hx] at h; simp [Datum.isNaN] at h

theorem order_nan_right (f : Format) {x y : Nat} (h : f.nan y = true) : f.order x y = none := by
  unfold nan at h
  unfold order
  cases hy : f.read y with
  | nan => cases f.read x <;> rfl
  | number => rw [hy] at h; simp [Datum.isNaN] at h
  | infinity => rw [hy] at h; simp [Datum.isNaN] at h

/-! ### exactness of rounding -/
theorem cut_exact (neg : Bool) (a drop : Nat) (ha : 0 < a) : Toward.even.cut neg (a * 2 ^ drop) drop = a := by
  have hne : a * 2 ^ drop ≠ 0 := Nat.mul_ne_zero (by omega) (Nat.ne_of_gt (Nat.two_pow_pos _))
  have hlog : drop ≤ (a * 2 ^ drop).log2 := by
    rw [Nat.le_log2 hne]
    calc 2 ^ drop = 1 * 2 ^ drop := (Nat.one_mul _).symm
      _ ≤ _ := Nat.mul_le_mul_right _ ha
  have hmin : min drop ((a * 2 ^ drop).log2 + 2) = drop := by omega
  unfold Toward.cut
  dsimp only
  rw [hmin, Nat.one_shiftLeft, Nat.mul_div_cancel _ (Nat.two_pow_pos _), Nat.mul_mod_left]
  have := Nat.two_pow_pos drop
  simp

theorem cut_zero (neg : Bool) (drop : Nat) : Toward.even.cut neg 0 drop = 0 := by
  unfold Toward.cut
  dsimp only
  simp

theorem log2_mul_pow (a k : Nat) (h : a ≠ 0) : (a * 2 ^ k).log2 = a.log2 + k := by
  have hne : a * 2 ^ k ≠ 0 := Nat.mul_ne_zero h (Nat.ne_of_gt (Nat.two_pow_pos _))
  apply Nat.le_antisymm
  · have : (a * 2 ^ k).log2 < a.log2 + k + 1 := by
      rw [Nat.log2_lt hne]
      have h1 : a < 2 ^ (a.log2 + 1) := Nat.lt_log2_self
      calc a * 2 ^ k < 2 ^ (a.log2 + 1) * 2 ^ k := Nat.mul_lt_mul_of_pos_right h1 (Nat.two_pow_pos _)
        _ = 2 ^ (a.log2 + k + 1) := by rw [← Nat.pow_add]; congr 1; omega
    omega
  · rw [Nat.le_log2 hne, Nat.pow_add]
    exact Nat.mul_le_mul_right _ (Nat.log2_self_le h)

theorem log2_of (a n : Nat) (h0 : 2 ^ n ≤ a) (h1 : a < 2 ^ (n + 1)) : a.log2 = n := by
  have hne : a ≠ 0 := by have := Nat.two_pow_pos n; omega
  apply Nat.le_antisymm
  · have := (Nat.log2_lt hne).2 h1; omega
  · exact (Nat.le_log2 hne).2 h0

theorem cut_bounds (neg : Bool) (n drop : Nat) : n / 2 ^ drop ≤ Toward.even.cut neg n drop ∧ Toward.even.cut neg n drop ≤ n / 2 ^ drop + 1 := by
  unfold Toward.cut
  dsimp only
  rw [Nat.one_shiftLeft]
  have hb : ∀ b : Bool, b.toNat ≤ 1 := by intro b; cases b <;> decide
  by_cases hd : drop ≤ n.log2 + 2
  · rw [Nat.min_eq_left hd]
    exact ⟨Nat.le_add_right _ _, Nat.add_le_add_left (hb _) _⟩
  · rw [Nat.min_eq_right (by omega)]
    have h1 : n < 2 ^ (n.log2 + 1) := Nat.lt_log2_self
    have h2 : 2 ^ (n.log2 + 2) = 2 * 2 ^ (n.log2 + 1) := by rw [Nat.pow_succ]; omega
    have h3 : 2 ^ (n.log2 + 1) ≤ 2 ^ drop := Nat.pow_le_pow_right (by decide) (by omega)
    have h4 : n < 2 ^ drop := by omega
    rw [Nat.div_eq_of_lt h4, Nat.div_eq_of_lt (by omega)]
    exact ⟨Nat.le_add_right _ _, Nat.add_le_add_left (hb _) _⟩

theorem units_sub (f : Format) {r : Nat} (h : r < f.binade) : f.units r = r := by unfold units; rw [if_pos h]

theorem units_norm (f : Format) {r : Nat} (h : f.binade ≤ r) : f.units r = (f.binade + r % f.binade) * 2 ^ (r / f.binade - 1) := by
  unfold units; rw [if_neg (by omega)]

/-- A number that the format has is rounded to itself. -/
theorem nearest_exact (f : Format) (neg : Bool) (mag : Nat) (place : Int) (rung : Nat) (hr : rung ≤ f.infRung)
    (h : mag * 2 ^ (place - f.leastPlace).toNat = f.units rung * 2 ^ (f.leastPlace - place).toNat) : f.nearest neg mag place = f.word neg rung := by
  have hB := f.binade_pos
  unfold nearest
  by_cases hm : mag = 0
  · rw [if_pos hm]
    subst hm
    have hu : f.units rung = 0 := by
      have h2 := Nat.two_pow_pos (f.leastPlace - place).toNat
      have h3 : f.units rung * 2 ^ (f.leastPlace - place).toNat = 0 := by simpa using h.symm
      rcases Nat.mul_eq_zero.1 h3 with h4 | h4
      · exact h4
      · omega
    have : rung = 0 := f.units_inj (by rw [hu, f.units_zero])
    rw [this]
  · rw [if_neg hm]
    dsimp only
    have hupos : f.units rung ≠ 0 := by
      intro hz
      rw [hz, Nat.zero_mul] at h
      have h2 := Nat.two_pow_pos (place - f.leastPlace).toNat
      rcases Nat.mul_eq_zero.1 h with h4 | h4
      · exact hm h4
      · omega
    have hlog : mag.log2 + (place - f.leastPlace).toNat = (f.units rung).log2 + (f.leastPlace - place).toNat := by
      rw [← log2_mul_pow _ _ hm, h, log2_mul_pow _ _ hupos]
    have hBF : f.binade = 2 ^ f.fractionBits := rfl
    by_cases hs : rung < f.binade
    · have hu := f.units_sub hs
      rw [hu] at h hlog hupos
      have hl : rung.log2 < f.fractionBits := (Nat.log2_lt hupos).2 (by rw [← hBF]; exact hs)
      have hlast : max (place + (mag.log2 : Int) - (f.fractionBits : Int)) f.leastPlace = f.leastPlace := by omega
      rw [hlast, Nat.shiftLeft_eq, h, cut_exact _ _ _ (by omega)]
      congr 1
      simp
      omega
    · have hs' : f.binade ≤ rung := by omega
      have hu := f.units_norm hs'
      have q1 : 1 ≤ rung / f.binade := by rw [Nat.le_div_iff_mul_le hB]; omega
      have hrm := Nat.mod_lt rung hB
      have hlu : (f.units rung).log2 = f.fractionBits + (rung / f.binade - 1) := by
        rw [hu, log2_mul_pow _ _ (by omega)]
        congr 1
        exact log2_of _ _ (by omega) (by rw [Nat.pow_succ]; omega)
      rw [hlu] at hlog
      have hlast : max (place + (mag.log2 : Int) - (f.fractionBits : Int)) f.leastPlace = f.leastPlace + ((rung / f.binade - 1 : Nat) : Int) := by omega
      rw [hlast]
      rw [hu] at h
      obtain ⟨q, hq⟩ : ∃ q, rung / f.binade - 1 = q := ⟨_, rfl⟩
      obtain ⟨sig, hmm⟩ : ∃ sig, f.binade + rung % f.binade = sig := ⟨_, rfl⟩
      rw [hq, hmm] at h
      rw [hq]
      have hsig : 0 < sig := by omega
      have hcut : Toward.even.cut neg (mag <<< (place - (f.leastPlace + (q : Int))).toNat) (f.leastPlace + (q : Int) - place).toNat = sig := by
        rw [Nat.shiftLeft_eq]
        have : mag * 2 ^ (place - (f.leastPlace + (q : Int))).toNat = sig * 2 ^ (f.leastPlace + (q : Int) - place).toNat := by
          by_cases hp : f.leastPlace + (q : Int) ≤ place
          · have e1 : (place - f.leastPlace).toNat = (place - (f.leastPlace + (q : Int))).toNat + q := by omega
            have e2 : (f.leastPlace - place).toNat = 0 := by omega
            have e3 : (f.leastPlace + (q : Int) - place).toNat = 0 := by omega
            rw [e1, e2, Nat.pow_add, ← Nat.mul_assoc, Nat.pow_zero, Nat.mul_one] at h
            rw [e3, Nat.pow_zero, Nat.mul_one]
            exact Nat.eq_of_mul_eq_mul_right (Nat.two_pow_pos q) h
          · have e0 : (place - (f.leastPlace + (q : Int))).toNat = 0 := by omega
            rw [e0, Nat.pow_zero, Nat.mul_one]
            by_cases hp2 : f.leastPlace ≤ place
            · have e2 : (f.leastPlace - place).toNat = 0 := by omega
              have e4 : 2 ^ q = 2 ^ (f.leastPlace + (q : Int) - place).toNat * 2 ^ (place - f.leastPlace).toNat := by
                rw [← Nat.pow_add]; congr 1; omega
              rw [e2, e4, ← Nat.mul_assoc, Nat.pow_zero, Nat.mul_one] at h
              exact Nat.eq_of_mul_eq_mul_right (Nat.two_pow_pos (place - f.leastPlace).toNat) h
            · have e2 : (place - f.leastPlace).toNat = 0 := by omega
              have e4 : (f.leastPlace + (q : Int) - place).toNat = q + (f.leastPlace - place).toNat := by omega
              rw [e2, Nat.pow_zero, Nat.mul_one] at h
              rw [e4, Nat.pow_add, ← Nat.mul_assoc]
              exact h
        rw [this, cut_exact _ _ _ hsig]
      rw [hcut]
      have e5 : (f.leastPlace + (q : Int) - f.leastPlace).toNat = q := by omega
      rw [e5]
      have hdm := Nat.div_add_mod rung f.binade
      have e6 : q * f.binade + sig = rung := by
        have hq' : rung / f.binade = q + 1 := by omega
        rw [hq', Nat.mul_add, Nat.mul_comm f.binade q] at hdm
        omega
      rw [e6, Nat.min_eq_left hr]

/-- A word read and written is itself. -/
theorem write_read (f : Format) (hE : 1 ≤ f.exponentBits) {b : Nat} (hb : b < 2 ^ f.width) (hn : f.nan b = false) : f.write (f.read b) = b := by
  rw [nan_iff f hE] at hn
  have hn' : f.rungOf b ≤ f.infRung := by simpa using hn
  by_cases h : f.rungOf b < f.infRung
  · obtain ⟨m, e, hr, hu⟩ := f.read_fin h
    rw [hr]
    show f.nearest _ _ _ = _
    rw [f.nearest_exact _ _ _ (f.rungOf b) hn', f.word_of hb]
    have e1 : (f.leastPlace + (e : Int) - f.leastPlace).toNat = e := by omega
    have e2 : (f.leastPlace - (f.leastPlace + (e : Int))).toNat = 0 := by omega
    rw [e1, e2, hu, Nat.pow_zero, Nat.mul_one]
  · have h' : f.rungOf b = f.infRung := by omega
    rw [f.read_inf hE h']
    show f.word _ _ = _
    rw [← h', f.word_of hb]

end Format
end Ieee
namespace Ieee
namespace Format

theorem units_infRung (f : Format) (hE : 1 ≤ f.exponentBits) : f.units f.infRung = 2 ^ (f.fractionBits + (2 ^ f.exponentBits - 2)) := by
  rw [f.units_norm (f.infRung_ge hE)]
  have hB := f.binade_pos
  have h1 : f.infRung % f.binade = 0 := by unfold infRung; exact Nat.mul_mod_left _ _
  have h2 : f.infRung / f.binade = 2 ^ f.exponentBits - 1 := by unfold infRung; exact Nat.mul_div_cancel _ hB
  rw [h1, h2, Nat.add_zero, Nat.pow_add]
  congr 2

/-- What has few enough digits and is not too great is a word's. -/
theorem exists_rung (f : Format) (a e : Nat) (ha : a < 2 ^ (f.fractionBits + 1)) (hu : a * 2 ^ e < f.units f.infRung) :
    ∃ r, r < f.infRung ∧ f.units r = a * 2 ^ e := by
  have hB := f.binade_pos
  have hBF : f.binade = 2 ^ f.fractionBits := rfl
  suffices h : ∃ r, f.units r = a * 2 ^ e by
    obtain ⟨r, hr⟩ := h
    exact ⟨r, (f.units_lt_iff).1 (by rw [hr]; exact hu), hr⟩
  by_cases h0 : a = 0
  · subst h0; exact ⟨0, by rw [f.units_zero]; simp⟩
  by_cases hs : a * 2 ^ e < f.binade
  · exact ⟨_, f.units_sub hs⟩
  have hL : a.log2 < f.fractionBits + 1 := (Nat.log2_lt h0).2 ha
  have hL2 : f.fractionBits ≤ a.log2 + e := by
    rw [← log2_mul_pow _ _ h0]
    exact (Nat.le_log2 (Nat.mul_ne_zero h0 (Nat.ne_of_gt (Nat.two_pow_pos _)))).2 (by omega)
  -- the significand with all its digits
  obtain ⟨s, hs1⟩ : ∃ s, s = a * 2 ^ (f.fractionBits - a.log2) := ⟨_, rfl⟩
  have hlow : 2 ^ a.log2 ≤ a := Nat.log2_self_le h0
  have hhigh : a < 2 ^ (a.log2 + 1) := Nat.lt_log2_self
  have hsB : f.binade ≤ s := by
    rw [hs1, hBF]
    calc 2 ^ f.fractionBits = 2 ^ a.log2 * 2 ^ (f.fractionBits - a.log2) := by rw [← Nat.pow_add]; congr 1; omega
      _ ≤ _ := Nat.mul_le_mul_right _ hlow
  have hsB2 : s < f.binade + f.binade := by
    rw [hs1, hBF]
    calc a * 2 ^ (f.fractionBits - a.log2) < 2 ^ (a.log2 + 1) * 2 ^ (f.fractionBits - a.log2) := Nat.mul_lt_mul_of_pos_right hhigh (Nat.two_pow_pos _)
      _ = 2 ^ (f.fractionBits + 1) := by rw [← Nat.pow_add]; congr 1; omega
      _ = _ := by rw [Nat.pow_succ]; omega
  have hval : a * 2 ^ e = s * 2 ^ (a.log2 + e - f.fractionBits) := by
    rw [hs1, Nat.mul_assoc, ← Nat.pow_add]; congr 2; omega
  refine ⟨(a.log2 + e - f.fractionBits) * f.binade + s, ?_⟩
  have hge : f.binade ≤ (a.log2 + e - f.fractionBits) * f.binade + s := by omega
  rw [f.units_norm hge]
  have hmod : ((a.log2 + e - f.fractionBits) * f.binade + s) % f.binade = s - f.binade := by
    rw [Nat.mul_add_mod_self_right]
    rw [show s = (s - f.binade) + f.binade by omega, Nat.add_mod_right, Nat.mod_eq_of_lt (by omega)]
    omega
  have hdiv : ((a.log2 + e - f.fractionBits) * f.binade + s) / f.binade = a.log2 + e - f.fractionBits + 1 := by
    have e1 : (a.log2 + e - f.fractionBits) * f.binade + s = (s - f.binade) + (a.log2 + e - f.fractionBits + 1) * f.binade := by
      rw [Nat.add_mul]; omega
    rw [e1, Nat.add_mul_div_right _ _ hB, Nat.div_eq_of_lt (by omega)]
    omega
  rw [hmod, hdiv, hval]
  congr 1
  · omega

/-- The digits of a finite word. -/
theorem units_digits (f : Format) {r : Nat} : ∃ a e, f.units r = a * 2 ^ e ∧ a < 2 ^ (f.fractionBits + 1) := by
  have hBF : f.binade = 2 ^ f.fractionBits := rfl
  have hB := f.binade_pos
  have h2 : 2 ^ (f.fractionBits + 1) = f.binade + f.binade := by rw [Nat.pow_succ]; omega
  by_cases h : r < f.binade
  · exact ⟨r, 0, by rw [f.units_sub h]; simp, by omega⟩
  · have := Nat.mod_lt r hB
    exact ⟨_, _, f.units_norm (by omega), by omega⟩

/-- A finite word of f, written in a format g that has its number. -/
theorem rewrite_exact (f g : Format) {b rg : Nat} (hb : f.rungOf b < f.infRung) (hg : rg ≤ g.infRung)
    (hu : f.units (f.rungOf b) * 2 ^ (f.leastPlace - g.leastPlace).toNat = g.units rg * 2 ^ (g.leastPlace - f.leastPlace).toNat) :
    g.write (f.read b) = g.word (f.isNeg b) rg := by
  obtain ⟨m, e, hr, um⟩ := f.read_fin hb
  rw [hr]
  show g.nearest _ _ _ = _
  refine g.nearest_exact _ _ _ _ hg ?_
  rw [← um] at hu
  by_cases h1 : g.leastPlace ≤ f.leastPlace
  · have e1 : (f.leastPlace + (e : Int) - g.leastPlace).toNat = e + (f.leastPlace - g.leastPlace).toNat := by omega
    have e2 : (g.leastPlace - f.leastPlace).toNat = 0 := by omega
    have e3 : (g.leastPlace - (f.leastPlace + (e : Int))).toNat = 0 := by omega
    rw [e1, e3, Nat.pow_add, ← Nat.mul_assoc, hu, e2]
  · by_cases h2 : g.leastPlace ≤ f.leastPlace + (e : Int)
    · have e1 : 2 ^ e = 2 ^ (f.leastPlace + (e : Int) - g.leastPlace).toNat * 2 ^ (g.leastPlace - f.leastPlace).toNat := by
        rw [← Nat.pow_add]; congr 1; omega
      have e2 : (f.leastPlace - g.leastPlace).toNat = 0 := by omega
      have e3 : (g.leastPlace - (f.leastPlace + (e : Int))).toNat = 0 := by omega
      rw [e2, e1, ← Nat.mul_assoc, Nat.pow_zero, Nat.mul_one] at hu
      rw [e3, Nat.pow_zero, Nat.mul_one]
      exact Nat.eq_of_mul_eq_mul_right (Nat.two_pow_pos _) hu
    · have e1 : (g.leastPlace - f.leastPlace).toNat = (g.leastPlace - (f.leastPlace + (e : Int))).toNat + e := by omega
      have e2 : (f.leastPlace - g.leastPlace).toNat = 0 := by omega
      have e3 : (f.leastPlace + (e : Int) - g.leastPlace).toNat = 0 := by omega
      rw [e2, e1, Nat.pow_add, ← Nat.mul_assoc, Nat.pow_zero, Nat.mul_one] at hu
      rw [e3, Nat.pow_zero, Nat.mul_one]
      exact Nat.eq_of_mul_eq_mul_right (Nat.two_pow_pos e) hu

end Format

/-- A finite single is a finite double. -/
theorem widen_rung {r : Nat} (h : r < single.infRung) : ∃ rd, rd < double.infRung ∧ double.units rd = single.units r * 2 ^ 925 := by
  obtain ⟨a, e, hu, ha⟩ := single.units_digits (r := r)
  have hlt := (single.units_lt_iff).2 h
  rw [single.units_infRung (by decide)] at hlt
  obtain ⟨rd, h1, h2⟩ := double.exists_rung a (e + 925) (Nat.lt_trans ha (by decide)) (by
    rw [double.units_infRung (by decide), Nat.pow_add, ← Nat.mul_assoc, ← hu]
    calc single.units r * 2 ^ 925 < 2 ^ (single.fractionBits + (2 ^ single.exponentBits - 2)) * 2 ^ 925 := Nat.mul_lt_mul_of_pos_right hlt (Nat.two_pow_pos _)
      _ = 2 ^ (single.fractionBits + (2 ^ single.exponentBits - 2) + 925) := (Nat.pow_add ..).symm
      _ ≤ _ := Nat.pow_le_pow_right (by decide) (by decide))
  exact ⟨rd, h1, by rw [h2, Nat.pow_add, ← Nat.mul_assoc, hu]⟩

theorem widen_word {b : Nat} (h : single.rungOf b < single.infRung) :
    ∃ rd, rd < double.infRung ∧ double.units rd = single.units (single.rungOf b) * 2 ^ 925 ∧ double.write (single.read b) = double.word (single.isNeg b) rd := by
  obtain ⟨rd, h1, h2⟩ := widen_rung h
  refine ⟨rd, h1, h2, single.rewrite_exact double h (Nat.le_of_lt h1) ?_⟩
  have e1 : (single.leastPlace - double.leastPlace).toNat = 925 := by decide
  have e2 : (double.leastPlace - single.leastPlace).toNat = 0 := by decide
  rw [h2, e1, e2, Nat.pow_zero, Nat.mul_one]
end Ieee
