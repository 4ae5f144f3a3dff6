/- Plain laws: the quarters of a turn; phasors. And an arm of the walk: complex numbers widened. No program in sight. -/
import Derived.Test.YtigcnipgmjmenaaKf
set_option exponentiation.threshold 3000
namespace Go.Fl
open Ieee

section
variable {P : Program} (w : World)
theorem run_cwiden (a b : Nat) : ∃ r s n, (Conv.complexToComplex .f32 a b .f64).run P w = .ok (.complex .f64 r s) (w.drewN n) ∧ Is .f64 r (widen (val .f32 a)) ∧ Is .f64 s (widen (val .f32 b)) := by
  obtain ⟨r, n, h1, h2⟩ := run_widen (P := P) w a
  obtain ⟨s, m, k1, k2⟩ := run_widen (P := P) (w.drewN n) b
  refine ⟨r, s, n + m, ?_, h2, k2⟩
  simp [Conv.complexToComplex, h1, k1]
theorem run_convert_cc (src dst : TypeId) (s k : FloatKind) (a b : Nat) (hs : (P.underlying src).isSome = true) (hd : P.underlying dst = some (.complex k)) :
    (convert src dst (.complex s a b)).run P w = (Conv.complexToComplex s a b k).run P w := by
  obtain ⟨u, hs'⟩ := Option.isSome_iff_exists.1 hs
  cases u <;> simp [convert, run_underlying hs', run_underlying hd]
end
section
variable {P : Program} {ops : Array Oper} {Q : Exit → Act → World → Prop} {a : Act} {w : World} {rest : List Oper} {o : Oper}
theorem wpList_cwi (t t' : TypeId) (x : Operand) (ho : o.op = .convert t t' x) (hg : Region.wanted o (yielded ops a.tmps) = true) (p q : Nat) (hx : a.eval x = .complex .f32 p q)
    (hs : (P.underlying t).isSome = true) (hd : P.underlying t' = some (.complex .f64)) {u v : Option Nat} (hp : Is .f32 p u) (hq : Is .f32 q v)
    (h : ∀ r s n, Is .f64 r (widen u) → Is .f64 s (widen v) → wpList P ops Q rest (a.put o.dst (.complex .f64 r s)) (w.drewN n)) : wpList P ops Q (o :: rest) a w := by
  refine wpList_wanted hg fun K hK => ?_
  obtain ⟨r, s, n, hr, h1, h2⟩ := run_cwiden (P := P) w p q
  unfold Oper.wp execOp
  rw [ho]
  simp only [hx, Sem.run_bind, run_convert_cc w t t' .f32 .f64 p q hs hd, Result.andThen_ok, hr, Sem.run_pure]
  rw [hp.1] at h1
  rw [hq.1] at h2
  exact hK _ _ (h r s n h1 h2)
end

def PostC (u v : Option Nat) (w : World) (e : Ending) (w' : World) : Prop := ∃ r s n, e = .returned (.complex .f32 r s) ∧ Is .f32 r u ∧ Is .f32 s v ∧ w' = w.drewN n
theorem PostC.mk {u v : Option Nat} {w : World} {r s n : Nat} (h1 : Is .f32 r u) (h2 : Is .f32 s v) : PostC u v w (.returned (.complex .f32 r s)) (w.drewN n) := ⟨r, s, n, rfl, h1, h2, rfl⟩
theorem PostC.mk0 {u v : Option Nat} {w : World} {r s : Nat} (h1 : Is .f32 r u) (h2 : Is .f32 s v) : PostC u v w (.returned (.complex .f32 r s)) w := ⟨r, s, 0, rfl, h1, h2, rfl⟩

/-- Without whole quarters: what is left, and how many. -/
def phL : Nat → Option Nat → Nat → Option Nat × Nat
  | 0, f, q => (f, q)
  | n + 1, f, q => if cmpV .geq .f64 f (some quarter) then phL n (fop .sub .f64 f (some quarter)) (q + 1) else (f, q)

/-- 2 - q / 4, as bits. -/
def qB : Nat → Nat
  | 0 => 4611686018427387904 | 1 => 4610560118520545280 | 2 => 4609434218613702656 | 3 => 4608308318706860032 | 4 => 4607182418800017408
  | 5 => 4604930618986332160 | 6 => 4602678819172646912 | 7 => 4598175219545276416 | _ => 0
theorem qB_units : ∀ q, q < 8 → double.units (qB q) = double.units (qB (q + 1)) + double.units quarter := by decide +kernel
theorem qB_le : ∀ q, qB q ≤ 4611686018427387904
  | 0 | 1 | 2 | 3 | 4 | 5 | 6 | 7 => by decide
  | _ + 8 => by show (0 : Nat) ≤ _; omega

theorem sub_quarter {f q : Nat} (hq : q < 8) (hf : f ≤ qB q) (hg : quarter ≤ f) : ∃ r, fop .sub .f64 (some f) (some quarter) = some r ∧ r ≤ qB (q + 1) := by
  have hle := qB_le q
  have hle1 := qB_le (q + 1)
  have e1 : double.rungOf f = f := rung_self (by omega)
  have hff : double.rungOf f < double.infRung := by rw [e1, inf_dbl]; omega
  obtain ⟨s, mag, e, h1, h2, h3, h4⟩ := double.sub_fin (x := f) (y := quarter) hff (by decide)
  have v1 : double.sv f = (double.units f : Int) := by unfold Format.sv; rw [isNeg_self (by omega), e1]; rfl
  have v2 : double.sv quarter = (double.units quarter : Int) := by decide +kernel
  have u1 : double.units quarter ≤ double.units f := (double.units_le_iff).2 hg
  have u2 : double.units f ≤ double.units (qB (q + 1)) + double.units quarter := by rw [← qB_units q hq]; exact (double.units_le_iff).2 hf
  rw [v1, v2] at h2 h3 h4
  obtain ⟨r, hr, hw⟩ := double.nearest_le_e s (mag := mag) (e := e) (R := qB (q + 1)) (by rw [h2]; omega)
  have hs : s = false := by
    by_cases hz : (double.units f : Int) - (double.units quarter : Int) = 0
    · have := h4 hz
      rw [this, isNeg_self (by omega)]
      rfl
    · rw [h3 hz]; exact decide_eq_false (by omega)
  refine ⟨r, ?_, hr⟩
  show double.sub f quarter = _
  rw [h1, hw, hs]; rfl

/-- The fraction of a double that is not great: at least 0 (or - 0), and at most 2. -/
theorem frac_word {x : Nat} (hx : double.units (double.rungOf x) < 2 ^ 1126) : ∃ f, fracV x = some f ∧ (f ≤ qB 0 ∨ f = 9223372036854775808) := by
  have hf : double.rungOf x < double.infRung := double.lt_inf_of_units (Nat.le_of_lt hx) (by rw [dinf]; exact two_pow_lt (by decide))
  have hw := (toIntVal hx).2
  obtain ⟨s1, f1⟩ := ofInt_sv (n := wholeOf x) (by omega)
  obtain ⟨g, hg⟩ := fin_some (op := .sub) (.inr (.inl rfl)) hf f1
  have hb : double.units (double.rungOf g) ≤ 2 ^ 1074 := bd_frac hx g hg
  have hgl : g < 18446744073709551616 := lt_of_fop hg
  have e1 : double.units 4607182418800017408 = 2 ^ 1074 := by decide +kernel
  have hgr : double.rungOf g ≤ 4607182418800017408 := by rw [← double.units_le_iff, e1]; exact hb
  unfold fracV
  simp only [hg]
  have hlt : ltB (some g) c0 = cmpV .lss .f64 (some g) (some 0) := rfl
  rw [hlt, lssV0]
  cases hn : FloatKind.f64.format.isNeg g with
  | false =>
    rw [Bool.and_false, if_neg (by decide)]
    refine ⟨g, rfl, .inl ?_⟩
    have h2 : double.isNeg g = false := hn
    rw [isNeg_dbl g hgl] at h2
    have h3 := of_decide_eq_false h2
    have h4 : double.rungOf g = g := rung_self (by omega)
    rw [h4] at hgr
    show g ≤ 4611686018427387904
    omega
  | true =>
    by_cases hz : FloatKind.f64.format.rungOf g = 0
    · rw [show decide (FloatKind.f64.format.rungOf g ≠ 0) = false by simp [hz], Bool.false_and, if_neg (by decide)]
      refine ⟨g, rfl, .inr ?_⟩
      have h2 : double.isNeg g = true := hn
      rw [isNeg_dbl g hgl] at h2
      have h3 := of_decide_eq_true h2
      have h4 : g % 9223372036854775808 = 0 := hz
      omega
    · rw [show decide (FloatKind.f64.format.rungOf g ≠ 0) = true by simp [hz], Bool.true_and, if_pos rfl]
      have hgf : double.rungOf g < double.infRung := by rw [inf_dbl]; omega
      obtain ⟨s, mag, e, k1, k2, k3, k4⟩ := double.sum_fin (x := g) (y := c1) hgf (by decide)
      have v1 : double.sv g = -(double.units (double.rungOf g) : Int) := by
        unfold Format.sv
        rw [show double.isNeg g = true from hn]; rfl
      have v2 : double.sv c1 = ((2 ^ 1074 : Nat) : Int) := by decide +kernel
      rw [v1, v2] at k2 k3 k4
      obtain ⟨P, hP⟩ : ∃ P : Nat, P = 2 ^ 1074 := ⟨_, rfl⟩
      rw [← hP] at k2 k3 k4 hb e1
      obtain ⟨r, hr, hw2⟩ := double.nearest_le_e s (mag := mag) (e := e) (R := 4607182418800017408) (by rw [k2, e1]; omega)
      have hs : s = false := by
        by_cases h0 : -(double.units (double.rungOf g) : Int) + (P : Int) = 0
        · rw [k4 h0]
          have : double.isNeg c1 = false := by decide
          rw [this, Bool.and_false]
        · rw [k3 h0]; exact decide_eq_false (by omega)
      refine ⟨r, ?_, .inl ?_⟩
      · show double.add g c1 = _
        rw [k1, hw2, hs]; rfl
      · show r ≤ 4611686018427387904
        omega

theorem zero_not_ge : cmpV .geq .f64 (some 9223372036854775808) (some quarter) = false := by decide +kernel

/-- What is left is small. -/
theorem small_units {f : Nat} (h : f ≤ qB 0 ∨ f = 9223372036854775808) : double.units (double.rungOf f) ≤ 2 ^ 1075 ∧ f < 18446744073709551616 := by
  rcases h with h | h
  · have h' : f ≤ 4611686018427387904 := h
    rw [rung_self (by omega)]
    have e : double.units 4611686018427387904 = 2 ^ 1075 := by decide +kernel
    exact ⟨by rw [← e]; exact (double.units_le_iff).2 h', by omega⟩
  · subst h; exact ⟨by decide +kernel, by decide⟩

theorem not_big_of {x E : Nat} (h : double.units (double.rungOf x) ≤ 2 ^ E) (hE : E < 1126) : bigB x = false := by
  unfold bigB
  have := two_pow_lt hE
  exact decide_eq_false (by omega)

/-- The other side: a quarter less what is left. -/
theorem quarter_less {f : Nat} (h : double.units (double.rungOf f) ≤ 2 ^ 1075) : ∃ a, fop .sub .f64 (some quarter) (some f) = some a ∧ double.units (double.rungOf a) ≤ 2 ^ 1076 ∧ a < 18446744073709551616 := by
  have hf := Bd.fin h (by omega)
  obtain ⟨a, ha⟩ := fin_some (op := .sub) (.inr (.inl rfl)) (x := quarter) (by decide) hf
  exact ⟨a, ha, bd_sub (E := 1075) (bd_const (c := quarter) (by decide +kernel)) (fun b hb => by cases hb; exact h) (by omega) a ha, lt_of_fop ha⟩

theorem narrowOk_1201 {v : Option Nat} (h : Bd 1201 v) : NarrowOk v := by
  intro b hb hf
  have hu := h b hb
  obtain ⟨m, e, hr, um⟩ := double.read_fin hf
  obtain ⟨R, hR, huR⟩ := single.pow_rung (by decide) 276 (by decide)
  rw [hr]
  have hle : m * 2 ^ e ≤ 2 ^ 1201 := by rw [um]; exact hu
  have hsl : single.leastPlace = -149 := by decide
  obtain ⟨r, hrr, hw⟩ := single.nearest_le (double.isNeg b) m (double.leastPlace + (e : Nat)) (R := R) (by
    rw [huR, dlp, hsl]
    by_cases h1 : 925 ≤ e
    · have e1 : (-1074 + (e : Int) - -149).toNat = e - 925 := by omega
      have e2 : (-149 - (-1074 + (e : Int))).toNat = 0 := by omega
      rw [e1, e2, Nat.pow_zero, Nat.mul_one]
      apply Nat.le_of_mul_le_mul_right _ (Nat.two_pow_pos 925)
      rw [Nat.mul_assoc, ← Nat.pow_add, ← Nat.pow_add]
      have e3 : e - 925 + 925 = e := by omega
      rw [e3]; exact hle
    · have e1 : (-1074 + (e : Int) - -149).toNat = 0 := by omega
      have e2 : (-149 - (-1074 + (e : Int))).toNat = 925 - e := by omega
      rw [e1, e2, Nat.pow_zero, Nat.mul_one]
      apply Nat.le_of_mul_le_mul_right _ (Nat.two_pow_pos e)
      rw [Nat.mul_assoc, ← Nat.pow_add, ← Nat.pow_add]
      have e3 : 276 + (925 - e + e) = 1201 := by omega
      rw [e3]; exact hle)
  show (single.read (single.nearest _ _ _)).isInfinity = false
  have hlt := single.infRung_lt
  rw [hw, is_inf_iff single (by decide), single.rungOf_word _ (by omega)]
  simp
  omega

/-- The parts of a phasor out of cosine, sine and the quarter. -/
def phRe (q : Nat) (C S : Option Nat) : Option Nat := if q = 1 then narrow (fop .sub .f64 (some 0) S) else if q = 2 then narrow (fop .sub .f64 (some 0) C) else if q = 3 then narrow S else narrow C
def phIm (q : Nat) (C S : Option Nat) : Option Nat := if q = 1 then narrow C else if q = 2 then narrow (fop .sub .f64 (some 0) S) else if q = 3 then narrow (fop .sub .f64 (some 0) C) else narrow S
def phQ (x : Nat) : Option Nat × Nat := phL 9 (fracV x) 0
def phC (x : Nat) : Option Nat := sineF (fracV ((fop .sub .f64 (some quarter) (phQ x).1).getD 0))
def phS (x : Nat) : Option Nat := sineF (fracV ((phQ x).1.getD 0))

theorem neg_ok {v : Option Nat} (h : Bd 1200 v) : NarrowOk (fop .sub .f64 (some 0) v) :=
  narrowOk_1201 (bd_sub (bd_const (by decide +kernel)) h (by omega))
theorem sineF_bd {x : Nat} (h : bigB x = false) : Bd 1200 (sineF (fracV x)) := bd_sineF (bd_fracV (not_big h))
end Go.Fl
