/- Plain laws of the floor of a double, with bounds; the tenths of decibels. No program in sight. -/
import Derived.Test.YtpfjcfhgckpjmaaGreatDoorFz
set_option exponentiation.threshold 3000
namespace Go.Fl
open Ieee

/-- The floor of a double, as the machine's word. -/
def floorN (x : Nat) : Nat := double.write ((double.read x).integral .down)

theorem cut_down_le (s : Bool) (n drop : Nat) : Toward.down.cut s n drop ≤ n / 2 ^ drop + 1 := by
  have h := cut_zero_eq s n drop
  unfold Toward.cut at h ⊢
  dsimp only at h ⊢
  have h2 : ((s && n % (1 <<< min drop (n.log2 + 2)) != 0)).toNat ≤ 1 := by cases (s && n % (1 <<< min drop (n.log2 + 2)) != 0) <;> decide
  rw [← h]
  simp only [Bool.toNat_false, Nat.add_zero]
  omega

theorem floorN_bd {x E : Nat} (hE : 1074 ≤ E) (hE2 : E < 2000) (h : double.units (double.rungOf x) ≤ 2 ^ E) :
    double.units (double.rungOf (floorN x)) ≤ 2 ^ (E + 1) ∧ double.nan (floorN x) = false ∧ floorN x < 18446744073709551616 := by
  have hf : double.rungOf x < double.infRung := Bd.fin h (by omega)
  obtain ⟨m, e, hr, hu⟩ := double.read_fin hf
  have hlp : double.leastPlace = -1074 := by decide
  obtain ⟨R, hR, huR⟩ := pow_word (E := E + 1) (by omega)
  have hM : m <<< (-1074 + (e : Int)).toNat / 2 ^ (-(-1074 + (e : Int))).toNat = m * 2 ^ e / 2 ^ 1074 := by
    rw [Nat.shiftLeft_eq]
    by_cases hc : 1074 ≤ e
    · have e1 : (-1074 + (e : Int)).toNat = e - 1074 := by omega
      have e2 : (-(-1074 + (e : Int))).toNat = 0 := by omega
      have e3 : 2 ^ e = 2 ^ (e - 1074) * 2 ^ 1074 := by rw [← Nat.pow_add]; congr 1; omega
      rw [e1, e2, e3, Nat.pow_zero, Nat.div_one, ← Nat.mul_assoc, Nat.mul_div_cancel _ (Nat.two_pow_pos 1074)]
    · have e1 : (-1074 + (e : Int)).toNat = 0 := by omega
      have e2 : (-(-1074 + (e : Int))).toNat = 1074 - e := by omega
      have e3 : 2 ^ 1074 = 2 ^ (1074 - e) * 2 ^ e := by rw [← Nat.pow_add]; congr 1; omega
      rw [e1, e2, e3, Nat.pow_zero, Nat.mul_one, Nat.mul_div_mul_right _ _ (Nat.two_pow_pos e)]
  obtain ⟨M, hMe⟩ : ∃ M, M = Toward.down.cut (double.isNeg x) (m <<< (-1074 + (e : Int)).toNat) (-(-1074 + (e : Int))).toNat := ⟨_, rfl⟩
  have hMle : M * 2 ^ 1074 ≤ 2 ^ (E + 1) := by
    have h1 := cut_down_le (double.isNeg x) (m <<< (-1074 + (e : Int)).toNat) (-(-1074 + (e : Int))).toNat
    rw [← hMe, hM, hu] at h1
    have h2 : double.units (double.rungOf x) / 2 ^ 1074 * 2 ^ 1074 ≤ 2 ^ E := Nat.le_trans (Nat.div_mul_le_self _ _) h
    have h3 : 2 ^ 1074 ≤ 2 ^ E := two_pow_le hE
    have h4 : 2 ^ (E + 1) = 2 ^ E + 2 ^ E := by rw [Nat.pow_succ]; omega
    calc M * 2 ^ 1074 ≤ (double.units (double.rungOf x) / 2 ^ 1074 + 1) * 2 ^ 1074 := Nat.mul_le_mul_right _ h1
      _ = double.units (double.rungOf x) / 2 ^ 1074 * 2 ^ 1074 + 2 ^ 1074 := by rw [Nat.add_mul, Nat.one_mul]
      _ ≤ 2 ^ E + 2 ^ E := Nat.add_le_add h2 h3
      _ = _ := h4.symm
  have hw : floorN x = double.nearest (double.isNeg x) M 0 := by
    unfold floorN
    rw [hr]
    simp only [Datum.integral, Format.write]
    rw [hMe, hlp]
  obtain ⟨r, hr1, he⟩ := double.nearest_le (double.isNeg x) M 0 (R := R) (by
    have e1 : ((0 : Int) - -1074).toNat = 1074 := by decide
    have e2 : ((-1074 : Int) - 0).toNat = 0 := by decide
    rw [huR, hlp, e1, e2, Nat.pow_zero, Nat.mul_one]; exact hMle)
  have hlt := double.infRung_lt
  have hb := bd_of_word hR huR (s := double.isNeg x) hr1
  rw [hw, he]
  refine ⟨hb _ rfl, ?_, ?_⟩
  · rw [double.nan_iff (by decide), double.rungOf_word _ (by omega)]; simp; omega
  · rw [inf_dbl] at hR; exact word_lt (by omega)

/-- The tenths of decibels of a positive finite single, ahead of the floor. -/
def tenX (b : Nat) : Option Nat := fop .add .f64 (fop .mul .f64 (logF (wideN b)) (some 4631308968768463603)) (some half)

theorem bd_tenX {b : Nat} (h0 : 874 * 4503599627370496 ≤ wideN b) (h1 : wideN b < 1151 * 4503599627370496) : Bd 1107 (tenX b) := by
  unfold tenX
  exact bd_add (bd_mul (C := 1106) (bd_logF h0 h1) (bd_const (E := 1080) (by decide +kernel)) (by omega) (by omega) (by omega) (by omega)) (bd_half.mono (by omega)) (by omega)

/-- It is a number: nothing here is a NaN. -/
theorem fin_some {op : BinOp} (ho : op = .add ∨ op = .sub ∨ op = .mul) {x y : Nat} (hx : double.rungOf x < double.infRung) (hy : double.rungOf y < double.infRung) : ∃ r, fop op .f64 (some x) (some y) = some r := by
  rcases ho with rfl | rfl | rfl
  · obtain ⟨s, mag, e, h1, -⟩ := double.sum_fin hx hy; exact ⟨_, h1⟩
  · obtain ⟨s, mag, e, h1, -⟩ := double.sub_fin hx hy; exact ⟨_, h1⟩
  · obtain ⟨mag, e, h1, -⟩ := double.mul_fin hx hy; exact ⟨_, h1⟩
theorem fin_quo {x y : Nat} (hx : double.rungOf x < double.infRung) (hy : double.rungOf y < double.infRung) (h0 : double.units (double.rungOf y) ≠ 0) : ∃ r, fop .quo .f64 (some x) (some y) = some r := by
  obtain ⟨m, e1, hm, um⟩ := double.read_fin hx
  obtain ⟨n, e2, hn, un⟩ := double.read_fin hy
  have hn0 : n ≠ 0 := by
    intro h; rw [h, Nat.zero_mul] at un; exact h0 un.symm
  have h : ∃ d, (double.read x).quotient (double.fractionBits + 2) (double.read y) = some d := by
    rw [hm, hn]
    simp only [Datum.quotient]
    rw [if_neg hn0]
    exact ⟨_, rfl⟩
  obtain ⟨d, hd⟩ := h
  refine ⟨double.write d, ?_⟩
  show double.div x y = _
  unfold Format.div
  rw [hd]; rfl

/-- A number with a bound. -/
def Nb (E : Nat) (v : Option Nat) : Prop := ∃ b, v = some b ∧ double.units (double.rungOf b) ≤ 2 ^ E
theorem Nb.of {E : Nat} {v : Option Nat} (h : Bd E v) (hs : ∃ b, v = some b) : Nb E v := by
  obtain ⟨b, hb⟩ := hs; exact ⟨b, hb, h b hb⟩
theorem Nb.bd {E : Nat} {v : Option Nat} (h : Nb E v) : Bd E v := by
  obtain ⟨b, hb, h2⟩ := h
  intro c hc
  rw [hb] at hc; cases hc; exact h2
theorem Nb.mono {E F : Nat} {v : Option Nat} (h : Nb E v) (hle : E ≤ F) : Nb F v := by
  obtain ⟨b, hb, h2⟩ := h; exact ⟨b, hb, Nat.le_trans h2 (two_pow_le hle)⟩
theorem Nb.const {c E : Nat} (h : double.units (double.rungOf c) ≤ 2 ^ E) : Nb E (some c) := ⟨c, rfl, h⟩
theorem Nb.add {E : Nat} {x y : Option Nat} (hx : Nb E x) (hy : Nb E y) (hE : E < 2097) : Nb (E + 1) (fop .add .f64 x y) := by
  refine Nb.of (bd_add hx.bd hy.bd hE) ?_
  obtain ⟨a, rfl, ha⟩ := hx
  obtain ⟨b, rfl, hb⟩ := hy
  exact fin_some (.inl rfl) (Bd.fin ha (by omega)) (Bd.fin hb (by omega))
theorem Nb.sub {E : Nat} {x y : Option Nat} (hx : Nb E x) (hy : Nb E y) (hE : E < 2097) : Nb (E + 1) (fop .sub .f64 x y) := by
  refine Nb.of (bd_sub hx.bd hy.bd hE) ?_
  obtain ⟨a, rfl, ha⟩ := hx
  obtain ⟨b, rfl, hb⟩ := hy
  exact fin_some (.inr (.inl rfl)) (Bd.fin ha (by omega)) (Bd.fin hb (by omega))
theorem Nb.mul {A B C : Nat} {x y : Option Nat} (hx : Nb A x) (hy : Nb B y) (h : A + B ≤ C + 1074) (hA : A < 2098) (hB : B < 2098) (hC : C < 2098) : Nb C (fop .mul .f64 x y) := by
  refine Nb.of (bd_mul hx.bd hy.bd h hA hB hC) ?_
  obtain ⟨a, rfl, ha⟩ := hx
  obtain ⟨b, rfl, hb⟩ := hy
  exact fin_some (.inr (.inr rfl)) (Bd.fin ha (by omega)) (Bd.fin hb (by omega))
theorem Nb.quo {E F : Nat} {x y : Option Nat} (hx : Nb E x) (hy : Nb F y) (hg : Ge1 y) (hE : E < 2098) (hF : F < 2098) : Nb E (fop .quo .f64 x y) := by
  obtain ⟨a, rfl, ha⟩ := hx
  obtain ⟨b, rfl, hb⟩ := hy
  have hbf := Bd.fin hb hF
  refine Nb.of (bd_div_ge1 (fun c hc => by cases hc; exact ha) hg (num_const (nan_of_fin .f64 hbf)) hE) ?_
  have h1 := (hg b rfl).2
  have := Nat.two_pow_pos 1074
  exact fin_quo (Bd.fin ha (by omega)) hbf (by omega)

theorem nb_srI {op : BinOp} (ho : op = .add ∨ op = .sub) {K : Nat} (hK : K < 26) {u : Option Nat} (hu : Nb 1074 u) : ∀ i, 2 * i < K + 2 → Nb (1074 + i) (srI op K u i)
  | 0, _ => ⟨c0, rfl, by decide +kernel⟩
  | i + 1, h => by
    have ih := nb_srI ho hK hu i (by omega)
    obtain ⟨g1, g2⟩ := kb_ge1 (K - 2 * i) (by omega) (by omega)
    have hk : Nb 1084 (some (kb (K - 2 * i))) := Nb.of (bd_kbi (e := ((K - 2 * i : Nat) : Int)) (by omega) (by omega)) ⟨_, rfl⟩
    unfold srI
    have a1 : Nb (1074 + i) (fop .quo .f64 (some c1) (some (kb (K - 2 * i)))) := (Nb.quo (Nb.const (E := 1074) (by decide +kernel)) hk g1 (by omega) (by omega)).mono (by omega)
    have a2 : Nb (1074 + i) (fop .mul .f64 u (srI op K u i)) := Nb.mul hu ih (by omega) (by omega) (by omega) (by omega)
    rcases ho with rfl | rfl
    · exact Nb.add a1 a2 (show 1074 + i < 2097 by omega)
    · exact Nb.sub a1 a2 (show 1074 + i < 2097 by omega)

theorem nb_tailL {y : Nat} {e : Int} (h1 : y < 4609434218613702656) (h2 : -1000 ≤ e) (h3 : e < 1000) : ∃ b, tailL y e = some b := by
  unfold tailL
  dsimp only
  have hy : Nb 1075 (some y) := by
    refine Nb.const ?_
    rw [rung_self (by omega)]
    have e : double.units 4611686018427387904 = 2 ^ 1075 := by decide +kernel
    rw [← e]
    exact (double.units_le_iff).2 (by omega)
  have hc : Nb 1075 (some c1) := Nb.const (by decide +kernel)
  have a1 : Nb 1076 (fop .sub .f64 (some y) (some c1)) := Nb.sub hy hc (by omega)
  have a2 : Nb 1076 (fop .add .f64 (some y) (some c1)) := Nb.add hy hc (by omega)
  have hs0 := Nb.quo a1 a2 (ge1_add_one (y := y) (by omega)) (by omega) (by omega)
  -- the quotient is at most 1
  have hs : Nb 1074 (fop .quo .f64 (fop .sub .f64 (some y) (some c1)) (fop .add .f64 (some y) (some c1))) := by
    have hr : double.rungOf y = y := rung_self (by omega)
    have hf : double.rungOf y < double.infRung := by rw [hr, inf_dbl]; omega
    have hf1 : double.rungOf c1 < double.infRung := by decide
    have hv1 : double.sv c1 = ((2 ^ 1074 : Nat) : Int) := by decide +kernel
    have hvy : 0 ≤ double.sv y ∧ double.sv y ≤ ((2 ^ 1075 : Nat) : Int) := by
      have h9 : double.units y ≤ 2 ^ 1075 := by have := hy.bd y rfl; rwa [hr] at this
      unfold Format.sv; rw [isNeg_self (by omega), hr]; simp only [Bool.false_eq_true, if_false]
      exact ⟨by omega, by exact_mod_cast h9⟩
    obtain ⟨R, hR, huR⟩ := pow_word (E := 1074) (by decide)
    obtain ⟨s, r, hr1, he⟩ := double.sub_le (R := R) hf hf1 (by
      rw [hv1, huR]
      have e5 : (2 : Nat) ^ 1075 = 2 * 2 ^ 1074 := by decide +kernel
      obtain ⟨P, hP⟩ : ∃ P : Nat, P = 2 ^ 1074 := ⟨_, rfl⟩
      rw [e5] at hvy
      rw [← hP] at hvy ⊢
      omega)
    have hbs : Nb 1074 (fop .sub .f64 (some y) (some c1)) := by
      have he' : fop .sub .f64 (some y) (some c1) = some (double.word s r) := he
      exact Nb.of (by rw [he']; exact bd_of_word hR huR hr1) ⟨_, he'⟩
    exact Nb.quo hbs a2 (ge1_add_one (y := y) (by omega)) (by omega) (by omega)
  have hu := Nb.mul (C := 1074) hs hs (by omega) (by omega) (by omega) (by omega)
  have hq := nb_srI (op := .add) (.inl rfl) (K := 25) (by omega) hu 13 (by omega)
  have hsq := Nb.mul (C := 1090) hs hq (by omega) (by omega) (by omega) (by omega)
  have h2' := Nb.mul (A := 1075) (C := 1094) (x := some c2) (Nb.const (by decide +kernel)) hsq (by omega) (by omega) (by omega) (by omega)
  have h3' := Nb.mul (A := 1084) (B := 1074) (C := 1094) (x := some (kbi e)) (y := some ln2) (Nb.of (bd_kbi ‹_› ‹_›) ⟨_, rfl⟩) (Nb.const (by decide +kernel)) (by omega) (by omega) (by omega) (by omega)
  obtain ⟨b, hb, -⟩ := Nb.add h2' h3' (by omega)
  exact ⟨b, hb⟩

theorem tenX_some {b : Nat} (h0 : 874 * 4503599627370496 ≤ wideN b) (h1 : wideN b < 1151 * 4503599627370496) : ∃ x, tenX b = some x := by
  have hL : Nb 1100 (logF (wideN b)) := by
    refine Nb.of (bd_logF h0 h1) ?_
    have h := logE_bounds h0 h1
    unfold logF
    refine nb_tailL ?_ (by omega) (by omega)
    unfold logY logE
    omega
  obtain ⟨x, hx, -⟩ := Nb.add (Nb.mul (C := 1106) (B := 1080) (y := some 4631308968768463603) hL (Nb.const (by decide +kernel)) (by omega) (by omega) (by omega) (by omega)) (Nb.const (c := half) (E := 1106) (by decide +kernel)) (by omega)
  exact ⟨x, hx⟩

/-- The tenths of decibels. -/
def tenN (b : Nat) : Int := wholeOf (floorN ((tenX b).getD 0))
theorem tenX_get {b : Nat} (h0 : 874 * 4503599627370496 ≤ wideN b) (h1 : wideN b < 1151 * 4503599627370496) :
    tenX b = some ((tenX b).getD 0) ∧ double.rungOf ((tenX b).getD 0) < double.infRung ∧ floatToIntVal .f64 (floorN ((tenX b).getD 0)) .i64 = some (tenN b) ∧ Is .f64 (floorN ((tenX b).getD 0)) (some (floorN ((tenX b).getD 0))) := by
  obtain ⟨x, hx⟩ := tenX_some h0 h1
  have hb := bd_tenX h0 h1
  unfold tenN
  rw [hx] at hb ⊢
  have hu := hb x rfl
  obtain ⟨k1, k2, k3⟩ := floorN_bd (E := 1107) (by omega) (by omega) hu
  refine ⟨rfl, Bd.fin hu (by omega), ?_, Is.const64 ⟨k2, k3⟩⟩
  exact (toIntVal (Nat.lt_of_le_of_lt k1 (two_pow_lt (by omega)))).1
end Go.Fl
