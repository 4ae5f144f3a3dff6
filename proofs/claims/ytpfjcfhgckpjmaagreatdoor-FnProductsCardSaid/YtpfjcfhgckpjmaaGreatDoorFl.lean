/- Laws of the walk for operations on floats, NaNs and all: a float is told by 'val' (none: a NaN, whose bits are not told). -/
import Derived.WalkKit
import Derived.Laws.FloatArith
import Derived.Laws.Cover3
import Derived.Deep.Draws
import Derived.Test.YtpfjcfhgckpjmaaGreatDoorIe
namespace Go.Fl
open Ieee

def val (k : FloatKind) (b : Nat) : Option Nat := if k.format.nan b then none else some b
/-- 'b' is a word of the kind; it is v (none: it is a NaN). -/
def Is (k : FloatKind) (b : Nat) (v : Option Nat) : Prop := val k b = v ∧ b < 2 ^ k.format.width

theorem exps (k : FloatKind) : 1 ≤ k.format.exponentBits := by cases k <;> decide

theorem Is.of_lt {k : FloatKind} {b : Nat} (h : b < 2 ^ k.format.width) : Is k b (val k b) := ⟨rfl, h⟩
theorem Is.of_wf {k : FloatKind} {b : Nat} (h : (Lit.float k b).wf = true) : Is k b (val k b) := by
  refine ⟨rfl, ?_⟩
  cases k
  · have h2 : b < 4294967296 := by simpa [Lit.wf] using h
    exact h2
  · have h2 : b < 18446744073709551616 := by simpa [Lit.wf] using h
    exact h2
theorem Is.wf {k : FloatKind} {b : Nat} {v : Option Nat} (h : Is k b v) : (Lit.float k b).wf = true := wf_of_lt k b h.2

theorem Is.of_write {k : FloatKind} {d : Datum} (hd : d.isNaN = false) : Is k (k.format.write d) (some (k.format.write d)) := by
  refine ⟨?_, k.format.write_lt d⟩
  unfold val
  rw [k.format.write_not_nan (exps k) d hd]
  rfl

theorem sum_not_nan {a b d : Datum} (h : a.sum b = some d) : d.isNaN = false := by
  cases a <;> cases b <;> simp [Datum.sum] at h <;> first | (subst h; rfl) | (obtain ⟨-, rfl⟩ := h; rfl)
theorem product_not_nan {a b d : Datum} (h : a.product b = some d) : d.isNaN = false := by
  cases a <;> cases b <;> simp [Datum.product] at h <;> first | (subst h; rfl) | (obtain ⟨-, rfl⟩ := h; rfl)
theorem quotient_not_nan {n : Nat} {a b d : Datum} (h : a.quotient n b = some d) : d.isNaN = false := by
  cases a <;> cases b <;> simp only [Datum.quotient] at h <;> (repeat' split at h) <;> first | (cases h; done) | (simp only [Option.some.injEq] at h; subst h; rfl)
theorem root_not_nan {n : Nat} {a d : Datum} (h : a.root n = some d) : d.isNaN = false := by
  cases a <;> simp only [Datum.root] at h <;> (repeat' split at h) <;> first | (cases h; done) | (simp only [Option.some.injEq] at h; subst h; rfl)

theorem sum_nan {a b : Datum} (h : a.isNaN = true ∨ b.isNaN = true) : a.sum b = none := by
  cases a <;> cases b <;> simp [Datum.isNaN, Datum.sum] at h ⊢
theorem product_nan {a b : Datum} (h : a.isNaN = true ∨ b.isNaN = true) : a.product b = none := by
  cases a <;> cases b <;> simp [Datum.isNaN, Datum.product] at h ⊢
theorem quotient_nan {n : Nat} {a b : Datum} (h : a.isNaN = true ∨ b.isNaN = true) : a.quotient n b = none := by
  cases a <;> cases b <;> simp [Datum.isNaN, Datum.quotient] at h ⊢

/-- The four operations. -/
def isArith : BinOp → Bool
  | .add | .sub | .mul | .quo => true
  | _ => false

def fop (op : BinOp) (k : FloatKind) : Option Nat → Option Nat → Option Nat
  | some x, some y => floatBits op k x y
  | _, _ => none

theorem floatBits_val {op : BinOp} {k : FloatKind} {x y : Nat} : floatBits op k x y = fop op k (val k x) (val k y) := by
  unfold val
  by_cases hx : k.format.nan x = true
  · rw [if_pos hx]
    show floatBits op k x y = none
    unfold floatBits
    cases op <;> simp only [Format.add, Format.sub, Format.mul, Format.div, sum_nan (.inl hx), product_nan (.inl hx), quotient_nan (.inl hx)] <;> rfl
  · rw [if_neg hx]
    by_cases hy : k.format.nan y = true
    · rw [if_pos hy]
      show floatBits op k x y = none
      have hy' : (k.format.read y).opposite.isNaN = true := by
        unfold Format.nan at hy
        cases h : k.format.read y <;> rw [h] at hy <;> simp [Datum.isNaN, Datum.opposite] at hy ⊢
      unfold floatBits
      cases op <;> simp only [Format.add, Format.sub, Format.mul, Format.div, sum_nan (.inr hy), sum_nan (.inr hy'), product_nan (.inr hy), quotient_nan (.inr hy)] <;> rfl
    · rw [if_neg hy]; rfl

theorem floatBits_is {op : BinOp} {k : FloatKind} {x y r : Nat} (h : floatBits op k x y = some r) : Is k r (some r) := by
  unfold floatBits at h
  have key : ∀ (o : Option Datum), (∀ d, o = some d → d.isNaN = false) → o.map k.format.write = some r → Is k r (some r) := by
    intro o ho hm
    cases o with
    | none => cases hm
    | some d => cases hm; exact Is.of_write (ho d rfl)
  split at h
  · exact key _ (fun d => sum_not_nan) h
  · exact key _ (fun d => sum_not_nan) h
  · exact key _ (fun d => product_not_nan) h
  · exact key _ (fun d => quotient_not_nan) h
  · cases h

/-- A NaN's bits as the tape gives them. -/
theorem nan_cut (k : FloatKind) (q : Question) (t : Nat) (hq : (∃ x y, q = .nanBits k x y) ∨ (∃ x, q = .nanConv k x)) : Is k (q.cut t) none := by
  have h1 : q.cut t = k.format.word (decide (t % 2 = 1)) (k.format.infRung + (1 + (t / 2) % (k.format.binade - 1))) := by
    have ht : t % 2 = 0 ∨ t % 2 = 1 := by omega
    rcases hq with ⟨x, y, rfl⟩ | ⟨x, rfl⟩ <;> cases k <;> rcases ht with ht | ht <;> simp [Question.cut, FloatKind.format, Format.word, single, double, Format.infRung, Format.binade, Format.signWeight, ht] <;> omega
  have hb : 2 ≤ k.format.binade := by cases k <;> decide
  have hm : (t / 2) % (k.format.binade - 1) < k.format.binade - 1 := Nat.mod_lt _ (by omega)
  have hi := k.format.infRung_add_binade
  have hlt : k.format.infRung + (1 + (t / 2) % (k.format.binade - 1)) < k.format.signWeight := by omega
  rw [h1]
  refine ⟨?_, k.format.word_lt _ hlt⟩
  unfold val
  rw [k.format.nan_iff (exps k), k.format.rungOf_word _ hlt, if_pos (by simp; omega)]

theorem forced_nanBits (k : FloatKind) (x y : Nat) : (Question.nanBits k x y).forced = false := rfl
theorem forced_nanConv (k : FloatKind) (x : Nat) : (Question.nanConv k x).forced = false := rfl

section
variable {P : Program} (w : World)

theorem run_farith (op : BinOp) (hop : isArith op = true) (t : TypeId) (k : FloatKind) (x y : Nat) :
    ∃ r n, (binOp op t (.float k x) (.float k y)).run P w = .ok (.float k r) (w.drewN n) ∧ Is k r (fop op k (val k x) (val k y)) := by
  cases h : floatBits op k x y with
  | some r =>
    refine ⟨r, 0, run_float_arith w op t k x y r h, ?_⟩
    rw [← floatBits_val, h]
    exact floatBits_is h
  | none =>
    refine ⟨(Question.nanBits k x y).cut (w.tape w.drawn (.nanBits k x y)), 1, ?_, ?_⟩
    · unfold floatBits at h
      cases op <;> first | (cases hop; done) | skip
      all_goals
        simp only at h
        simp [binOp, Op.floatArith, h, forced_nanBits, World.drew_is_drewN]
    · rw [← floatBits_val, h]
      exact nan_cut k _ _ (.inl ⟨_, _, rfl⟩)

end

/-! ### comparison, sign, conversions -/
def cmp (k : FloatKind) : Option Nat → Option Nat → Option Ordering
  | some x, some y => some (compare (k.format.sv x) (k.format.sv y))
  | _, _ => none

theorem order_val (k : FloatKind) (x y : Nat) : k.format.order x y = cmp k (val k x) (val k y) := by
  unfold val
  by_cases hx : k.format.nan x = true
  · rw [if_pos hx, k.format.order_nan_left hx]; rfl
  · rw [if_neg hx]
    by_cases hy : k.format.nan y = true
    · rw [if_pos hy, k.format.order_nan_right hy]; rfl
    · rw [if_neg hy, k.format.order_sv (exps k) (by simpa using hx) (by simpa using hy)]; rfl

theorem Is.order {k : FloatKind} {x y : Nat} {u v : Option Nat} (hx : Is k x u) (hy : Is k y v) : k.format.order x y = cmp k u v := by
  rw [order_val, hx.1, hy.1]

theorem Is.some {k : FloatKind} {x y : Nat} (h : Is k x (some y)) : x = y ∧ k.format.nan x = false := by
  obtain ⟨h, -⟩ := h
  unfold val at h
  split at h
  · cases h
  · rename_i hn; exact ⟨Option.some.inj h, by simpa using hn⟩

theorem Is.none {k : FloatKind} {x : Nat} (h : Is k x none) : k.format.nan x = true := by
  obtain ⟨h, -⟩ := h
  unfold val at h
  split at h
  · assumption
  · cases h

/-- The value of a single as a double. -/
def widen : Option Nat → Option Nat := Option.map fun b => double.write (single.read b)
def narrow : Option Nat → Option Nat := Option.map fun b => single.write (double.read b)
/-- No finite double that is too great for a single. -/
def NarrowOk (v : Option Nat) : Prop := ∀ b, v = some b → double.rungOf b < double.infRung → (single.read (single.write (double.read b))).isInfinity = false

theorem is_inf_iff (f : Format) (hE : 1 ≤ f.exponentBits) (b : Nat) : (f.read b).isInfinity = decide (f.rungOf b = f.infRung) := by
  have hi := f.infRung_ge hE
  rw [f.read_eq]
  split
  · simp [Datum.isInfinity]; omega
  · split
    · simp [Datum.isInfinity]; omega
    · split
      · simp [Datum.isInfinity]; omega
      · simp [Datum.isInfinity]; omega

section
variable {P : Program} (w : World)

theorem run_convNaN (s k : FloatKind) (hne : s ≠ k) (b : Nat) (hn : s.format.nan b = true) :
    ∃ r, (Conv.floatToFloat s b k).run P w = .ok (.float k r) (w.drewN 1) ∧ Is k r none := by
  refine ⟨(Question.nanConv k b).cut (w.tape w.drawn (.nanConv k b)), ?_, nan_cut k _ _ (.inr ⟨_, rfl⟩)⟩
  have hd : ∃ sg fr, s.decode b = .nan sg fr := by
    unfold Format.nan at hn
    unfold FloatKind.decode
    cases h : s.format.read b <;> rw [h] at hn <;> simp [Datum.isNaN] at hn
    exact ⟨_, _, rfl⟩
  obtain ⟨sg, fr, hd⟩ := hd
  simp [Conv.floatToFloat, hne, hd, forced_nanConv, World.drew_is_drewN]

theorem run_widen (b : Nat) : ∃ r n, (Conv.floatToFloat .f32 b .f64).run P w = .ok (.float .f64 r) (w.drewN n) ∧ Is .f64 r (widen (val .f32 b)) := by
  by_cases hn : single.nan b = true
  · obtain ⟨r, h1, h2⟩ := run_convNaN (P := P) w .f32 .f64 (by decide) b hn
    refine ⟨r, 1, h1, ?_⟩
    unfold val
    rw [if_pos (show FloatKind.f32.format.nan b = true from hn)]
    exact h2
  · refine ⟨double.write (single.read b), 0, ?_, ?_⟩
    · have hnn : single.nan b = false := by simpa using hn
      have hd : (single.read b).isNaN = false := hnn
      by_cases hf : single.rungOf b < single.infRung
      · obtain ⟨rd, h1, h2, h3⟩ := widen_word hf
        obtain ⟨m, e, hr, -⟩ := single.read_fin hf
        have hdec : FloatKind.f32.decode b = .number (single.isNeg b) m (single.leastPlace + (e : Nat)) := hr
        have hinf : (FloatKind.f64.decode (FloatKind.f64.encode (.number (single.isNeg b) m (single.leastPlace + (e : Nat))))).isInfinity = false := by
          show (double.read (double.write _)).isInfinity = false
          rw [← hr, h3, is_inf_iff double (by decide), double.rungOf_word _ (Nat.lt_trans h1 double.infRung_lt)]
          simp; omega
        simp only [Conv.floatToFloat, hdec, hinf]
        rw [hr]
        rfl
      · have hi : single.rungOf b = single.infRung := by
          rw [single.nan_iff (by decide)] at hnn
          have : single.rungOf b ≤ single.infRung := by simpa using hnn
          omega
        have hr := single.read_inf (by decide) hi
        have hdec : FloatKind.f32.decode b = .infinity (single.isNeg b) := hr
        simp only [Conv.floatToFloat, hdec]
        rw [hr]
        rfl
    · unfold val
      rw [if_neg (show ¬ FloatKind.f32.format.nan b = true from hn)]
      have hd : (single.read b).isNaN = false := by
        have : single.nan b = false := by simpa using hn
        exact this
      exact Is.of_write (k := .f64) hd

theorem run_narrow (b : Nat) (hok : NarrowOk (val .f64 b)) : ∃ r n, (Conv.floatToFloat .f64 b .f32).run P w = .ok (.float .f32 r) (w.drewN n) ∧ Is .f32 r (narrow (val .f64 b)) := by
  by_cases hn : double.nan b = true
  · obtain ⟨r, h1, h2⟩ := run_convNaN (P := P) w .f64 .f32 (by decide) b hn
    refine ⟨r, 1, h1, ?_⟩
    unfold val
    rw [if_pos (show FloatKind.f64.format.nan b = true from hn)]
    exact h2
  · have hv : val .f64 b = .some b := by unfold val; rw [if_neg (show ¬ FloatKind.f64.format.nan b = true from hn)]
    refine ⟨single.write (double.read b), 0, ?_, ?_⟩
    · have hnn : double.nan b = false := by simpa using hn
      by_cases hf : double.rungOf b < double.infRung
      · obtain ⟨m, e, hr, -⟩ := double.read_fin hf
        have hdec : FloatKind.f64.decode b = .number (double.isNeg b) m (double.leastPlace + (e : Nat)) := hr
        have hinf : (FloatKind.f32.decode (FloatKind.f32.encode (.number (double.isNeg b) m (double.leastPlace + (e : Nat))))).isInfinity = false := by
          have := hok b hv hf
          rw [hr] at this
          exact this
        simp only [Conv.floatToFloat, hdec, hinf]
        rw [hr]
        rfl
      · have hi : double.rungOf b = double.infRung := by
          rw [double.nan_iff (by decide)] at hnn
          have : double.rungOf b ≤ double.infRung := by simpa using hnn
          omega
        have hr := double.read_inf (by decide) hi
        have hdec : FloatKind.f64.decode b = .infinity (double.isNeg b) := hr
        simp only [Conv.floatToFloat, hdec]
        rw [hr]
        rfl
    · rw [hv]
      have hd : (double.read b).isNaN = false := by
        have : double.nan b = false := by simpa using hn
        exact this
      exact Is.of_write (k := .f32) hd

theorem run_convert_ff (src dst : TypeId) (s k : FloatKind) (b : Nat) (hs : (P.underlying src).isSome = true) (hd : P.underlying dst = some (.float k)) :
    (convert src dst (.float s b)).run P w = (Conv.floatToFloat s b k).run P w := by
  obtain ⟨u, hs'⟩ := Option.isSome_iff_exists.1 hs
  cases u <;> simp [convert, run_underlying hs', run_underlying hd]

theorem run_same (k : FloatKind) (b : Nat) : (Conv.floatToFloat k b k).run P w = .ok (.float k b) w := by
  simp [Conv.floatToFloat]
end

/-! ### the arms of the walk -/
section
variable {P : Program} {ops : Array Oper} {Q : Exit → Act → World → Prop} {a : Act} {w : World} {rest : List Oper} {o : Oper}

theorem wpList_wanted (hw : Region.wanted o (yielded ops a.tmps) = true)
    (h : ∀ K : Act → World → Prop, (∀ a w, wpList P ops Q rest a w → K a w) → o.wp P a w K Q) : wpList P ops Q (o :: rest) a w :=
  wpList_step fun K hK => by rw [if_pos hw]; exact h K hK

theorem wpList_farith (op : BinOp) (t : TypeId) (x y : Operand) (t' : TypeId) (ho : o.op = .binOp op t x y t') (hg : Region.wanted o (yielded ops a.tmps) = true) (hop : isArith op = true)
    (k : FloatKind) (p q : Nat) (hx : a.eval x = .float k p) (hy : a.eval y = .float k q)
    (h : ∀ r n, Is k r (fop op k (val k p) (val k q)) → wpList P ops Q rest (a.put o.dst (.float k r)) (w.drewN n)) : wpList P ops Q (o :: rest) a w := by
  refine wpList_wanted hg fun K hK => ?_
  obtain ⟨r, n, hr, hv⟩ := run_farith (P := P) w op hop t k p q
  have hgd : ∀ u v : Value, (eqGuard op t x y u v).run P w = .ok () w := by
    intro u v
    cases op <;> first | (cases hop; done) | rfl
  unfold Oper.wp execOp
  rw [ho]
  simp only [hx, hy, Sem.run_bind, hgd, Result.andThen_ok, hr, Sem.run_pure]
  exact hK _ _ (h r n hv)

theorem wpList_widen (t t' : TypeId) (x : Operand) (ho : o.op = .convert t t' x) (hg : Region.wanted o (yielded ops a.tmps) = true) (b : Nat) (hx : a.eval x = .float .f32 b)
    (hs : (P.underlying t).isSome = true) (hd : P.underlying t' = some (.float .f64))
    (h : ∀ r n, Is .f64 r (widen (val .f32 b)) → wpList P ops Q rest (a.put o.dst (.float .f64 r)) (w.drewN n)) : wpList P ops Q (o :: rest) a w := by
  refine wpList_wanted hg fun K hK => ?_
  obtain ⟨r, n, hr, hv⟩ := run_widen (P := P) w b
  unfold Oper.wp execOp
  rw [ho]
  simp only [hx, Sem.run_bind, run_convert_ff w t t' .f32 .f64 b hs hd, Result.andThen_ok, hr, Sem.run_pure]
  exact hK _ _ (h r n hv)

theorem wpList_narrow (t t' : TypeId) (x : Operand) (ho : o.op = .convert t t' x) (hg : Region.wanted o (yielded ops a.tmps) = true) (b : Nat) (hx : a.eval x = .float .f64 b)
    (hs : (P.underlying t).isSome = true) (hd : P.underlying t' = some (.float .f32)) (hok : NarrowOk (val .f64 b))
    (h : ∀ r n, Is .f32 r (narrow (val .f64 b)) → wpList P ops Q rest (a.put o.dst (.float .f32 r)) (w.drewN n)) : wpList P ops Q (o :: rest) a w := by
  refine wpList_wanted hg fun K hK => ?_
  obtain ⟨r, n, hr, hv⟩ := run_narrow (P := P) w b hok
  unfold Oper.wp execOp
  rw [ho]
  simp only [hx, Sem.run_bind, run_convert_ff w t t' .f64 .f32 b hs hd, Result.andThen_ok, hr, Sem.run_pure]
  exact hK _ _ (h r n hv)

theorem wpList_fsame (k : FloatKind) (t t' : TypeId) (x : Operand) (ho : o.op = .convert t t' x) (hg : Region.wanted o (yielded ops a.tmps) = true) (b : Nat) (hx : a.eval x = .float k b)
    (hs : (P.underlying t).isSome = true) (hd : P.underlying t' = some (.float k))
    (h : wpList P ops Q rest (a.put o.dst (.float k b)) w) : wpList P ops Q (o :: rest) a w := by
  refine wpList_wanted hg fun K hK => ?_
  unfold Oper.wp execOp
  rw [ho]
  simp only [hx, Sem.run_bind, run_convert_ff w t t' k k b hs hd, Result.andThen_ok, run_same, Sem.run_pure]
  exact hK _ _ h
end

/-! ### a number against itself -/
theorem neq_self (k : FloatKind) (b : Nat) : (k.format.order b b != some .eq) = k.format.nan b := by
  by_cases h : k.format.nan b = true
  · rw [k.format.order_nan_left h, h]; rfl
  · have h' : k.format.nan b = false := by simpa using h
    rw [k.format.order_sv (exps k) h' h', h']
    simp

/-- The bits as a whole number, one for all NaNs. -/
def bitsV : Option Nat → Int
  | none => 2143289344
  | some b => b

theorem val_nan {k : FloatKind} {b : Nat} (h : k.format.nan b = true) : val k b = none := by unfold val; rw [if_pos h]
theorem val_num {k : FloatKind} {b : Nat} (h : k.format.nan b = false) : val k b = .some b := by unfold val; rw [if_neg (by rw [h]; decide)]
end Go.Fl
namespace Go.Fl
theorem Is.lt {k : FloatKind} {b : Nat} {v : Option Nat} (h : Is k b v) : b < 2 ^ k.format.width := h.2
end Go.Fl
namespace Go.Fl
theorem Is.same_order {k : FloatKind} {r s z : Nat} {v : Option Nat} (hr : Is k r v) (hs : Is k s v) : k.format.order r z = k.format.order s z := by
  rw [order_val, order_val, hr.1, hs.1]
theorem Is.val {k : FloatKind} {b : Nat} {v : Option Nat} (h : Is k b v) : Fl.val k b = v := h.1
end Go.Fl
