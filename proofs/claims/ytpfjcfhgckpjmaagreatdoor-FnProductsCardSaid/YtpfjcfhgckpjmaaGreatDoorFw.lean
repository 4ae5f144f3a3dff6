/- Arms of the walk: a comparison whose answer is known; a whole number made a float; facts of the loops' counters. -/
import Derived.Test.YtpfjcfhgckpjmaaGreatDoorAn
set_option exponentiation.threshold 3000
namespace Go.Fl
open Ieee

section
variable {P : Program} {ops : Array Oper} {Q : Exit → Act → World → Prop} {a : Act} {w : World} {rest : List Oper} {o : Oper}

theorem wpList_cmd (op : BinOp) (t : TypeId) (x y : Operand) (t' : TypeId) (ho : o.op = .binOp op t x y t') (hg : Region.wanted o (yielded ops a.tmps) = true) (hop : isCmp op = true)
    (k : FloatKind) (p q : Nat) (hx : a.eval x = .float k p) (hy : a.eval y = .float k q) {u v : Option Nat} (hp : Is k p u) (hq : Is k q v) {c : Bool} (hc : cmpV op k u v = c)
    (h : wpList P ops Q rest (a.put o.dst (.bool c)) w) : wpList P ops Q (o :: rest) a w :=
  wpList_cm op t x y t' ho hg hop k p q hx hy hp hq fun c' hc' => by rw [← hc', hc]; exact h
end

theorem Is.kbi {e : Int} (h0 : -1000 ≤ e) (h1 : e < 1000) : Is .f64 (Fl.kbi e) (.some (Fl.kbi e)) := Is.const64 (kbi_num h0 h1)
theorem Is.kb {j : Nat} (h : j < 1000) : Is .f64 (Fl.kb j) (.some (Fl.kb j)) := Is.kbi (e := (j : Int)) (by omega) (by omega)
theorem Is.ofInt {n : Int} (h : n.natAbs < 2 ^ 53) : Is .f64 (floatOfInt .f64 n) (.some (floatOfInt .f64 n)) := by
  obtain ⟨r, h2, -, h3⟩ := ofInt_word h
  have hlt := double.infRung_lt
  rw [h3]
  refine Is.const64 ⟨?_, ?_⟩
  · rw [double.nan_iff (by decide), double.rungOf_word _ (by omega)]; simp; omega
  · rw [inf_dbl] at h2
    unfold Format.word
    have : double.signWeight = 9223372036854775808 := by decide
    rw [this]
    split <;> omega
theorem Is.pos {r : Nat} (h : r ≤ 9218868437227405312) : Is .f64 r (.some r) := Is.const64 ⟨num_of_lt h, by omega⟩
theorem Is.fin {r : Nat} (hr : r < 18446744073709551616) (h : double.rungOf r < double.infRung) : Is .f64 r (.some r) := Is.const64 ⟨nan_of_fin .f64 h, hr⟩

theorem kb_geV (j : Nat) (h : j ≤ 8) : cmpV .geq .f64 (some (kb j)) (some c1) = decide (1 ≤ j) := by
  have h1 := kb_ge j h
  rw [order_val, val_kb j (by omega), val_c1] at h1
  exact h1
theorem kb_downV (j : Nat) (h1 : 1 ≤ j) (h : j ≤ 8) : fop .sub .f64 (some (kb j)) (some c1) = some (kb (j - 1)) := by
  have := kb_down j h1 h
  rwa [val_kb j (by omega), val_c1] at this
theorem kb_divV (j : Nat) (h1 : 1 ≤ j) (h : j ≤ 8) : fop .mul .f64 (fop .mul .f64 (some c2) (some (kb j))) (fop .add .f64 (fop .mul .f64 (some c2) (some (kb j))) (some c1)) = dV j := by
  have := kb_div j h1 h
  rwa [val_kb j (by omega), val_c1, val_c2] at this
/-- The counters of the odd series: K, K - 2, .., 1, - 1. -/
def ko (K i : Nat) : Nat := Fl.kbi ((K : Int) - 2 * (i : Int))
theorem ko25_ge : ∀ i : Nat, i < 14 → cmpV .geq .f64 (some (ko 25 i)) (some c1) = decide (i ≤ 12) := by decide +kernel
theorem ko25_dn : ∀ i : Nat, i < 13 → fop .sub .f64 (some (ko 25 i)) (some c2) = some (ko 25 (i + 1)) := by decide +kernel
theorem ko25_kb : ∀ i : Nat, i < 13 → ko 25 i = Fl.kb (25 - 2 * i) := by decide +kernel
theorem ko15_ge : ∀ i : Nat, i < 9 → cmpV .geq .f64 (some (ko 15 i)) (some c1) = decide (i ≤ 7) := by decide +kernel
theorem ko15_dn : ∀ i : Nat, i < 8 → fop .sub .f64 (some (ko 15 i)) (some c2) = some (ko 15 (i + 1)) := by decide +kernel
theorem ko15_kb : ∀ i : Nat, i < 8 → ko 15 i = Fl.kb (15 - 2 * i) := by decide +kernel
theorem Is.ko {K i : Nat} (h : K < 500) (hi : i < 200) : Is .f64 (Fl.ko K i) (.some (Fl.ko K i)) := Is.kbi (by omega) (by omega)
/-- What a function of floats leaves: a float with a value; draws. -/
def Post64 (V : Option Nat) (w : World) (e : Ending) (w' : World) : Prop := ∃ r n, e = .returned (.float .f64 r) ∧ Is .f64 r V ∧ w' = w.drewN n
def Post32 (V : Option Nat) (w : World) (e : Ending) (w' : World) : Prop := ∃ r n, e = .returned (.float .f32 r) ∧ Is .f32 r V ∧ w' = w.drewN n
theorem Post64.mk {V : Option Nat} {w : World} {r n : Nat} (h : Is .f64 r V) : Post64 V w (.returned (.float .f64 r)) (w.drewN n) := ⟨r, n, rfl, h, rfl⟩
theorem Post32.mk {V : Option Nat} {w : World} {r n : Nat} (h : Is .f32 r V) : Post32 V w (.returned (.float .f32 r)) (w.drewN n) := ⟨r, n, rfl, h, rfl⟩
theorem Post64.mk0 {V : Option Nat} {w : World} {r : Nat} (h : Is .f64 r V) : Post64 V w (.returned (.float .f64 r)) w := ⟨r, 0, rfl, h, rfl⟩
theorem Post32.mk0 {V : Option Nat} {w : World} {r : Nat} (h : Is .f32 r V) : Post32 V w (.returned (.float .f32 r)) w := ⟨r, 0, rfl, h, rfl⟩

/-- Numbers of at least 0: their tests are those of their bits. -/
theorem geV_self {a b : Nat} (ha : a < 9223372036854775808) (hb : b < 9223372036854775808) : cmpV .geq .f64 (some a) (some b) = decide (b ≤ a) := by
  unfold cmpV
  rw [cmp_self ha hb]
  rcases Nat.lt_trichotomy a b with h | h | h
  · rw [(Nat.compare_eq_lt).2 h, decide_eq_false (by omega)]; rfl
  · rw [h]; simp
  · rw [(Nat.compare_eq_gt).2 h, decide_eq_true (by omega)]; rfl
theorem ltV_self {a b : Nat} (ha : a < 9223372036854775808) (hb : b < 9223372036854775808) : cmpV .lss .f64 (some a) (some b) = decide (a < b) := by
  unfold cmpV
  rw [cmp_self ha hb]
  rcases Nat.lt_trichotomy a b with h | h | h
  · rw [(Nat.compare_eq_lt).2 h, decide_eq_true (by omega)]; rfl
  · rw [h]; simp
  · rw [(Nat.compare_eq_gt).2 h, decide_eq_false (by omega)]; rfl

/-- A number against 0. -/
theorem cmp0 (k : FloatKind) (b : Nat) : cmp k (some b) (some 0) = some (if k.format.rungOf b = 0 then .eq else if k.format.isNeg b then .lt else .gt) := by
  show some (compare (k.format.sv b) (k.format.sv 0)) = _
  have h0 : k.format.sv 0 = 0 := by cases k <;> decide +kernel
  rw [h0]
  congr 1
  unfold Format.sv
  by_cases hr : k.format.rungOf b = 0
  · rw [hr, k.format.units_zero, if_pos rfl]; cases k.format.isNeg b <;> rfl
  · rw [if_neg hr]
    have hu : 0 < k.format.units (k.format.rungOf b) := by
      have := (k.format.units_lt_iff).2 (Nat.pos_of_ne_zero hr)
      rwa [k.format.units_zero] at this
    cases k.format.isNeg b with
    | true => simp only [if_true]; exact (Int.compare_eq_lt).2 (by omega)
    | false => simp only [Bool.false_eq_true, if_false]; exact (Int.compare_eq_gt).2 (by omega)
theorem cmpS (k : FloatKind) (b : Nat) : cmp k (some b) (some b) = some .eq := by
  show some (compare (k.format.sv b) (k.format.sv b)) = _
  simp

theorem dV_is : ∀ i : Nat, i < 8 → Is .f64 (floatOfInt .f64 (Go.RowKit.wrap64 (2 * (8 - (i : Int)) * (2 * (8 - (i : Int)) + 1)))) (dV (8 - i)) := by
  unfold Is
  decide +kernel

/-- Finite or not: what a test of a number less itself tells. -/
theorem neq_fin {x : Nat} (h : double.rungOf x < double.infRung) : cmpV .neq .f64 (fop .sub .f64 (some x) (some x)) (some c0) = false := by
  have h' : fop .sub .f64 (some x) (some x) = some 0 := sub_self_fin double h
  rw [h']; decide +kernel
theorem eql_fin {x : Nat} (h : double.rungOf x < double.infRung) : cmpV .eql .f64 (fop .sub .f64 (some x) (some x)) (some c0) = true := by
  have h' : fop .sub .f64 (some x) (some x) = some 0 := sub_self_fin double h
  rw [h']; decide +kernel
theorem cmp_none (k : FloatKind) (v : Option Nat) : cmp k none v = none := by cases v <;> rfl
theorem cmp_none' (k : FloatKind) (v : Option Nat) : cmp k v none = none := by cases v <;> rfl
/-- A single that is not finite, widened and taken from itself. -/
theorem wide_not {b : Nat} (h : ¬ single.rungOf b < single.infRung) : fop .sub .f64 (widen (val .f32 b)) (widen (val .f32 b)) = none := by
  by_cases hn : single.nan b = true
  · rw [val_nan (k := .f32) hn]; rfl
  · have hn' : single.nan b = false := by simpa using hn
    have hi : single.rungOf b = single.infRung := by
      rw [single.nan_iff (by decide)] at hn'
      have : single.rungOf b ≤ single.infRung := by simpa using hn'
      omega
    rw [val_num (k := .f32) hn']
    have hw : widen (some b) = some (double.word (single.isNeg b) double.infRung) := by
      unfold widen
      rw [Option.map_some, single.read_inf (by decide) hi]
      rfl
    rw [hw]
    cases single.isNeg b <;> decide +kernel
theorem neq_not {v : Option Nat} (h : fop .sub .f64 v v = none) : cmpV .neq .f64 (fop .sub .f64 v v) (some c0) = true := by rw [h]; rfl

theorem narrow_none : NarrowOk none := by intro b h; cases h
theorem narrow_const {c : Nat} (h : (single.read (single.write (double.read c))).isInfinity = false ∨ ¬ double.rungOf c < double.infRung) : NarrowOk (some c) := by
  intro b hb hf
  cases hb
  rcases h with h | h
  · exact h
  · exact absurd hf h

/-- What a finite single is as a double. -/
theorem widen_fin {b : Nat} (h : single.rungOf b < single.infRung) : ∃ rd, widen (val .f32 b) = some (double.word (single.isNeg b) rd) ∧ rd < double.infRung ∧ double.units rd = single.units (single.rungOf b) * 2 ^ 925 := by
  have hn : single.nan b = false := nan_of_fin .f32 h
  rw [val_num (k := .f32) hn]
  obtain ⟨rd, h1, h2, h3⟩ := widen_word h
  exact ⟨rd, by unfold widen; rw [Option.map_some, h3], h1, h2⟩
theorem word_lt {s : Bool} {r : Nat} (h : r < 9223372036854775808) : double.word s r < 18446744073709551616 := by
  unfold Format.word
  have : double.signWeight = 9223372036854775808 := by decide
  rw [this]
  split <;> omega
theorem order_cmp {x y : Nat} (hx : double.nan x = false) (hy : double.nan y = false) : FloatKind.f64.format.order x y = cmp .f64 (some x) (some y) := by
  rw [order_val, val_num (k := .f64) hx, val_num (k := .f64) hy]
theorem p52_num : double.nan p52 = false := by decide +kernel
theorem m52_num : double.nan m52 = false := by decide +kernel
theorem big_specV {b : Nat} (hn : double.nan b = false) :
    (bigB b = true → cmpV .geq .f64 (some b) (some p52) = true ∨ (cmpV .geq .f64 (some b) (some p52) = false ∧ cmpV .leq .f64 (some b) (some m52) = true)) ∧
    (bigB b = false → cmpV .geq .f64 (some b) (some p52) = false ∧ cmpV .leq .f64 (some b) (some m52) = false) := by
  have h := big_spec hn
  rw [order_cmp hn p52_num, order_cmp hn m52_num] at h
  exact h
theorem big_absV {b : Nat} (hn : double.nan b = false) : cmpV .geq .f64 (some (absB b)) (some p52) = bigB b := by
  have h := big_abs hn
  have h2 : double.nan (b % 9223372036854775808) = false := by rw [(abs_sv b).2]; exact hn
  rw [order_cmp h2 p52_num] at h
  exact h
theorem absB_is {b : Nat} (hn : double.nan b = false) : Is .f64 (absB b) (some (absB b)) := by
  refine Is.const64 ⟨?_, ?_⟩
  · unfold absB; rw [(abs_sv b).2]; exact hn
  · have : absB b < 9223372036854775808 := Nat.mod_lt _ (by decide)
    omega
theorem not_big {b : Nat} (h : bigB b = false) : double.units (double.rungOf b) < 2 ^ 1126 := by
  unfold bigB at h
  simpa using h
def koIdx (K : Nat) (v : Value) : Nat := match v with | .float _ b => ((List.range 15).find? fun j => ko K j == b).getD 0 | _ => 0
theorem ko25_idx : ∀ i : Nat, i < 14 → koIdx 25 (.float .f64 (ko 25 i)) = i := by decide +kernel
theorem ko15_idx : ∀ i : Nat, i < 9 → koIdx 15 (.float .f64 (ko 15 i)) = i := by decide +kernel
end Go.Fl
