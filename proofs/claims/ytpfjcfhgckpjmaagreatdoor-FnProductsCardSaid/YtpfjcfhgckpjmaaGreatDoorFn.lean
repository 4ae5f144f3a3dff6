/- Plain laws: the sine of turns, as a function of a double's bits; it never is too great for a single. No program in sight. -/
import Derived.Test.YtpfjcfhgckpjmaaGreatDoorFq
set_option exponentiation.threshold 3000
namespace Go.Fl
open Ieee

def ltB (v : Option Nat) (c : Nat) : Bool := cmp .f64 v (some c) == some .lt
def gtB (v : Option Nat) (c : Nat) : Bool := cmp .f64 v (some c) == some .gt
def geB (v : Option Nat) (c : Nat) : Bool := cmp .f64 v (some c) == some .gt || cmp .f64 v (some c) == some .eq

theorem cmp_is {r c : Nat} {v : Option Nat} (h : Is .f64 r v) (hc : double.nan c = false) : FloatKind.f64.format.order r c = cmp .f64 v (some c) := by
  rw [order_val, h.1, val_num (k := .f64) hc]
theorem lt_is {r c : Nat} {v : Option Nat} (h : Is .f64 r v) (hc : double.nan c = false) : (FloatKind.f64.format.order r c == some .lt) = ltB v c := by
  rw [cmp_is h hc]; rfl
theorem gt_is {r c : Nat} {v : Option Nat} (h : Is .f64 r v) (hc : double.nan c = false) : (FloatKind.f64.format.order r c == some .gt) = gtB v c := by
  rw [cmp_is h hc]; rfl
theorem ge_is {r c : Nat} {v : Option Nat} (h : Is .f64 r v) (hc : double.nan c = false) : (FloatKind.f64.format.order r c == some .gt || FloatKind.f64.format.order r c == some .eq) = geB v c := by
  rw [cmp_is h hc]; rfl

abbrev c0 : Nat := 0
abbrev c1 : Nat := 4607182418800017408
abbrev c2 : Nat := 4611686018427387904
abbrev half : Nat := 4602678819172646912
abbrev quarter : Nat := 4598175219545276416
abbrev tau : Nat := 4618760256179416344
abbrev p52 : Nat := 4841369599423283200
abbrev m52 : Nat := 14064741636278059008

/-- The part of a double behind the point, from 0 on. -/
def fracV (x : Nat) : Option Nat :=
  let f := fop .sub .f64 (some x) (some (floatOfInt .f64 (wholeOf x)))
  if ltB f c0 then fop .add .f64 f (some c1) else f

/-- The double of a small number. -/
def kb (j : Nat) : Nat := floatOfInt .f64 j
def dV (j : Nat) : Option Nat := some (kb (2 * j * (2 * j + 1)))

/-- The sum of the series behind i steps. -/
def pI (u : Option Nat) : Nat → Option Nat
  | 0 => some c1
  | i + 1 => fop .sub .f64 (some c1) (fop .quo .f64 (fop .mul .f64 u (pI u i)) (dV (8 - i)))

def sineF (f0 : Option Nat) : Option Nat :=
  let t := geB f0 half
  let f1 := if t then fop .sub .f64 f0 (some half) else f0
  let f2 := if gtB f1 quarter then fop .sub .f64 (some half) f1 else f1
  let z := fop .mul .f64 f2 (some tau)
  let u := fop .mul .f64 z z
  let r := fop .mul .f64 z (pI u 8)
  if t then fneg r else r

/-- The four ways through. -/
theorem sineF_way {f0 f1 f2 : Option Nat} {t g : Bool} (ht : geB f0 half = t) (h1 : f1 = if t then fop .sub .f64 f0 (some half) else f0) (hg : gtB f1 quarter = g)
    (h2 : f2 = if g then fop .sub .f64 (some half) f1 else f1) :
    sineF f0 = if t then fneg (fop .mul .f64 (fop .mul .f64 f2 (some tau)) (pI (fop .mul .f64 (fop .mul .f64 f2 (some tau)) (fop .mul .f64 f2 (some tau))) 8)) else fop .mul .f64 (fop .mul .f64 f2 (some tau)) (pI (fop .mul .f64 (fop .mul .f64 f2 (some tau)) (fop .mul .f64 f2 (some tau))) 8) := by
  subst ht
  subst h1
  subst hg
  subst h2
  rfl

def kIdx (v : Value) : Nat := match v with | .float _ b => ((List.range 9).find? fun j => kb j == b).getD 0 | _ => 0

theorem kb_idx : ∀ j, j ≤ 8 → kIdx (.float .f64 (kb j)) = j := by
  intro j hj
  have : j = 0 ∨ j = 1 ∨ j = 2 ∨ j = 3 ∨ j = 4 ∨ j = 5 ∨ j = 6 ∨ j = 7 ∨ j = 8 := by omega
  rcases this with rfl | rfl | rfl | rfl | rfl | rfl | rfl | rfl | rfl <;> decide +kernel

theorem kb_ge : ∀ j, j ≤ 8 → (FloatKind.f64.format.order (kb j) c1 == some .gt || FloatKind.f64.format.order (kb j) c1 == some .eq) = decide (1 ≤ j) := by
  intro j hj
  have : j = 0 ∨ j = 1 ∨ j = 2 ∨ j = 3 ∨ j = 4 ∨ j = 5 ∨ j = 6 ∨ j = 7 ∨ j = 8 := by omega
  rcases this with rfl | rfl | rfl | rfl | rfl | rfl | rfl | rfl | rfl <;> decide +kernel

theorem kb_8 : kb 8 = 4620693217682128896 := by decide +kernel

theorem kb_down : ∀ j, 1 ≤ j → j ≤ 8 → fop .sub .f64 (val .f64 (kb j)) (val .f64 c1) = some (kb (j - 1)) := by
  intro j h1 hj
  have : j = 1 ∨ j = 2 ∨ j = 3 ∨ j = 4 ∨ j = 5 ∨ j = 6 ∨ j = 7 ∨ j = 8 := by omega
  rcases this with rfl | rfl | rfl | rfl | rfl | rfl | rfl | rfl <;> decide +kernel

theorem kb_div : ∀ j, 1 ≤ j → j ≤ 8 → fop .mul .f64 (fop .mul .f64 (val .f64 c2) (val .f64 (kb j))) (fop .add .f64 (fop .mul .f64 (val .f64 c2) (val .f64 (kb j))) (val .f64 c1)) = dV j := by
  intro j h1 hj
  have : j = 1 ∨ j = 2 ∨ j = 3 ∨ j = 4 ∨ j = 5 ∨ j = 6 ∨ j = 7 ∨ j = 8 := by omega
  rcases this with rfl | rfl | rfl | rfl | rfl | rfl | rfl | rfl <;> decide +kernel

theorem dV_ge : ∀ j, 1 ≤ j → j ≤ 8 → Ge1 (dV j) ∧ Num (dV j) := by
  intro j h1 hj
  have : j = 1 ∨ j = 2 ∨ j = 3 ∨ j = 4 ∨ j = 5 ∨ j = 6 ∨ j = 7 ∨ j = 8 := by omega
  rcases this with rfl | rfl | rfl | rfl | rfl | rfl | rfl | rfl <;> exact ⟨ge1_const (by decide +kernel), num_const (by decide +kernel)⟩

theorem val_c1 : val .f64 c1 = some c1 := by decide +kernel
theorem val_c2 : val .f64 c2 = some c2 := by decide +kernel
theorem val_half : val .f64 half = some half := by decide +kernel
theorem val_quarter : val .f64 quarter = some quarter := by decide +kernel
theorem val_tau : val .f64 tau = some tau := by decide +kernel
theorem val_kb : ∀ j, j ≤ 72 → val .f64 (kb j) = some (kb j) := by
  intro j hj
  obtain ⟨r, h1, h2, h3⟩ := ofInt_word (n := (j : Int)) (by omega)
  refine val_num (k := .f64) ?_
  show double.nan (floatOfInt .f64 (j : Int)) = false
  have hlt := double.infRung_lt
  rw [h3, double.nan_iff (by decide), double.rungOf_word _ (by omega)]
  simp; omega

theorem bd_c1 : Bd 1074 (some c1) := bd_const (by decide +kernel)
theorem bd_half : Bd 1074 (some half) := bd_const (by decide +kernel)
theorem bd_tau : Bd 1077 (some tau) := bd_const (by decide +kernel)

theorem bd_pI {u : Option Nat} (hu : Bd 1086 u) : ∀ i, i ≤ 8 → Bd (1074 + 13 * i) (pI u i)
  | 0, _ => bd_c1
  | i + 1, h => by
    have ih := bd_pI hu i (by omega)
    obtain ⟨g1, g2⟩ := dV_ge (8 - i) (by omega) (by omega)
    unfold pI
    have h1 : Bd (1074 + 13 * i + 12) (fop .mul .f64 u (pI u i)) := bd_mul hu ih (by omega) (by omega) (by omega) (by omega)
    have h2 := bd_div_ge1 h1 g1 g2 (by omega)
    exact (bd_sub (bd_c1.mono (by omega)) h2 (by omega)).mono (by omega)

theorem lt_of_fop {op : BinOp} {x y : Option Nat} {b : Nat} (h : fop op .f64 x y = some b) : b < 18446744073709551616 := by
  cases x with
  | none => cases h
  | some x =>
    cases y with
    | none => cases h
    | some y => exact (floatBits_is (k := .f64) h).2

theorem bd_sineF {f0 : Option Nat} (h : Bd 1075 f0) : Bd 1200 (sineF f0) := by
  unfold sineF
  dsimp only
  obtain ⟨f1, e1⟩ : ∃ f1, f1 = if geB f0 half then fop .sub .f64 f0 (some half) else f0 := ⟨_, rfl⟩
  have h1 : Bd 1076 f1 := by
    rw [e1]; split
    · exact bd_sub h (bd_half.mono (by omega)) (by omega)
    · exact h.mono (by omega)
  rw [← e1]
  obtain ⟨f2, e2⟩ : ∃ f2, f2 = if gtB f1 quarter then fop .sub .f64 (some half) f1 else f1 := ⟨_, rfl⟩
  have h2 : Bd 1077 f2 := by
    rw [e2]; split
    · exact bd_sub (bd_half.mono (by omega)) h1 (by omega)
    · exact h1.mono (by omega)
  rw [← e2]
  have hz : Bd 1080 (fop .mul .f64 f2 (some tau)) := bd_mul h2 bd_tau (by omega) (by omega) (by omega) (by omega)
  have hu : Bd 1086 (fop .mul .f64 (fop .mul .f64 f2 (some tau)) (fop .mul .f64 f2 (some tau))) := bd_mul hz hz (by omega) (by omega) (by omega) (by omega)
  have hp := bd_pI hu 8 (by omega)
  have hr : Bd 1200 (fop .mul .f64 (fop .mul .f64 f2 (some tau)) (pI (fop .mul .f64 (fop .mul .f64 f2 (some tau)) (fop .mul .f64 f2 (some tau))) 8)) := bd_mul hz hp (by omega) (by omega) (by omega) (by omega)
  split
  · exact bd_neg hr fun b hb => lt_of_fop hb
  · exact hr

theorem bd_fracV {x : Nat} (hx : double.units (double.rungOf x) < 2 ^ 1126) : Bd 1075 (fracV x) := by
  unfold fracV
  dsimp only
  have h := bd_frac hx
  split
  · exact bd_add h bd_c1 (by omega)
  · exact h.mono (by omega)

/-! ### finite? great? -/
def finD (b : Nat) : Bool := decide (double.rungOf b < double.infRung)
def bigB (b : Nat) : Bool := decide (2 ^ 1126 ≤ double.units (double.rungOf b))

theorem sub_self_fin (f : Format) {b : Nat} (h : f.rungOf b < f.infRung) : f.sub b b = some 0 := by
  obtain ⟨s, mag, e, h1, h2, -, h4⟩ := f.sub_fin h h
  rw [Int.sub_self] at h2 h4
  have hs : s = false := by rw [h4 rfl]; cases f.isNeg b <;> rfl
  have hm : mag = 0 := by
    have h3 : mag * 2 ^ e = 0 := by rw [h2]; rfl
    rcases Nat.mul_eq_zero.1 h3 with h5 | h5
    · exact h5
    · have := Nat.two_pow_pos e; omega
  rw [h1, hs, hm]
  unfold Format.nearest
  rw [if_pos rfl]
  rfl

theorem sub_self_not (k : FloatKind) {b : Nat} (h : ¬ k.format.rungOf b < k.format.infRung) : fop .sub k (val k b) (val k b) = none := by
  by_cases hn : k.format.nan b = true
  · rw [val_nan hn]; rfl
  · have hn' : k.format.nan b = false := by simpa using hn
    rw [val_num hn']
    have hi : k.format.rungOf b = k.format.infRung := by
      rw [k.format.nan_iff (exps k)] at hn'
      have : k.format.rungOf b ≤ k.format.infRung := by simpa using hn'
      omega
    show k.format.sub b b = none
    unfold Format.sub
    rw [k.format.read_inf (exps k) hi]
    cases k.format.isNeg b <;> rfl

theorem nan_of_fin (k : FloatKind) {b : Nat} (h : k.format.rungOf b < k.format.infRung) : k.format.nan b = false := by
  rw [k.format.nan_iff (exps k)]; simp; omega

/-- What a test of a number against itself tells. -/
theorem fin_test (k : FloatKind) (b r : Nat) (h : Is k r (fop .sub k (val k b) (val k b))) :
    (k.format.order r 0 == some .eq) = decide (k.format.rungOf b < k.format.infRung) := by
  by_cases hf : k.format.rungOf b < k.format.infRung
  · rw [val_num (nan_of_fin k hf)] at h
    have h' : fop .sub k (some b) (some b) = some 0 := sub_self_fin k.format hf
    rw [h'] at h
    rw [h.some.1, decide_eq_true hf]
    cases k <;> decide +kernel
  · rw [sub_self_not k hf] at h
    rw [k.format.order_nan_left h.none, decide_eq_false hf]
    rfl

theorem big_abs {b : Nat} (hn : double.nan b = false) : (FloatKind.f64.format.order (b % 9223372036854775808) p52 == some .gt || FloatKind.f64.format.order (b % 9223372036854775808) p52 == some .eq) = bigB b := by
  obtain ⟨h1, h2⟩ := abs_sv b
  show (double.order (b % 9223372036854775808) p52 == some .gt || double.order (b % 9223372036854775808) p52 == some .eq) = _
  have hc : double.sv p52 = ((2 ^ 1126 : Nat) : Int) := by decide +kernel
  rw [double.order_sv (by decide) (by rw [h2]; exact hn) (by decide +kernel), h1, hc]
  unfold bigB
  obtain ⟨U, hU⟩ : ∃ U, U = double.units (double.rungOf b) := ⟨_, rfl⟩
  obtain ⟨P, hP⟩ : ∃ P : Nat, P = 2 ^ 1126 := ⟨_, rfl⟩
  rw [← hU, ← hP]
  rcases Nat.lt_trichotomy U P with h | h | h
  · rw [(Int.compare_eq_lt).2 (by exact_mod_cast h), decide_eq_false (by omega)]; rfl
  · subst h; simp
  · rw [(Int.compare_eq_gt).2 (by exact_mod_cast h), decide_eq_true (by omega)]; rfl

theorem big_spec {b : Nat} (hn : double.nan b = false) :
    (bigB b = true → (FloatKind.f64.format.order b p52 == some .gt || FloatKind.f64.format.order b p52 == some .eq) = true ∨
      ((FloatKind.f64.format.order b p52 == some .gt || FloatKind.f64.format.order b p52 == some .eq) = false ∧ (FloatKind.f64.format.order b m52 == some .lt || FloatKind.f64.format.order b m52 == some .eq) = true)) ∧
    (bigB b = false → (FloatKind.f64.format.order b p52 == some .gt || FloatKind.f64.format.order b p52 == some .eq) = false ∧ (FloatKind.f64.format.order b m52 == some .lt || FloatKind.f64.format.order b m52 == some .eq) = false) := by
  show (bigB b = true → (double.order b p52 == some .gt || double.order b p52 == some .eq) = true ∨
      ((double.order b p52 == some .gt || double.order b p52 == some .eq) = false ∧ (double.order b m52 == some .lt || double.order b m52 == some .eq) = true)) ∧
    (bigB b = false → (double.order b p52 == some .gt || double.order b p52 == some .eq) = false ∧ (double.order b m52 == some .lt || double.order b m52 == some .eq) = false)
  have hc : double.sv p52 = ((2 ^ 1126 : Nat) : Int) := by decide +kernel
  have hm : double.sv m52 = -((2 ^ 1126 : Nat) : Int) := by decide +kernel
  rw [double.order_sv (by decide) hn (by decide +kernel), double.order_sv (by decide) hn (by decide +kernel), hc, hm]
  have ha := double.sv_natAbs b
  unfold bigB
  obtain ⟨U, hU⟩ : ∃ U, U = double.units (double.rungOf b) := ⟨_, rfl⟩
  obtain ⟨P, hP⟩ : ∃ P : Nat, P = 2 ^ 1126 := ⟨_, rfl⟩
  obtain ⟨S, hS⟩ : ∃ S, S = double.sv b := ⟨_, rfl⟩
  rw [← hU, ← hS] at ha
  rw [← hU, ← hP, ← hS]
  have c1 : (some (compare S (P : Int)) == some Ordering.gt || some (compare S (P : Int)) == some Ordering.eq) = decide ((P : Int) ≤ S) := by
    rcases Int.lt_trichotomy S (P : Int) with h | h | h
    · rw [(Int.compare_eq_lt).2 h, decide_eq_false (by omega)]; rfl
    · rw [h]; simp
    · rw [(Int.compare_eq_gt).2 h, decide_eq_true (by omega)]; rfl
  have c2 : (some (compare S (-(P : Int))) == some Ordering.lt || some (compare S (-(P : Int))) == some Ordering.eq) = decide (S ≤ -(P : Int)) := by
    rcases Int.lt_trichotomy S (-(P : Int)) with h | h | h
    · rw [(Int.compare_eq_lt).2 h, decide_eq_true (by omega)]; rfl
    · rw [h]; simp
    · rw [(Int.compare_eq_gt).2 h, decide_eq_false (by omega)]; rfl
  rw [c1, c2]
  simp only [decide_eq_true_eq, decide_eq_false_iff_not]
  omega
end Go.Fl
