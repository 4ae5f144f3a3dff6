/- More laws of the walk: each operation on doubles and singles told by values ('Is'), so that a walk's facts compose. -/
import Derived.Test.YtpfjcfhgckpjmaaGreatDoorFn
namespace Go.Fl
open Ieee

def isCmp : BinOp → Bool
  | .eql | .neq | .lss | .leq | .gtr | .geq => true
  | _ => false

def cmpV (op : BinOp) (k : FloatKind) (u v : Option Nat) : Bool :=
  match op with
  | .eql => cmp k u v == some .eq
  | .neq => cmp k u v != some .eq
  | .lss => cmp k u v == some .lt
  | .leq => cmp k u v == some .lt || cmp k u v == some .eq
  | .gtr => cmp k u v == some .gt
  | .geq => cmp k u v == some .gt || cmp k u v == some .eq
  | _ => false

theorem Is.const64 {c : Nat} (h : double.nan c = false ∧ c < 18446744073709551616) : Is .f64 c (.some c) := ⟨val_num (k := .f64) h.1, h.2⟩
theorem Is.const32 {c : Nat} (h : single.nan c = false ∧ c < 4294967296) : Is .f32 c (.some c) := ⟨val_num (k := .f32) h.1, h.2⟩

section
variable {P : Program} {ops : Array Oper} {Q : Exit → Act → World → Prop} {a : Act} {w : World} {rest : List Oper} {o : Oper}

theorem wpList_ftoi (t t' : TypeId) (x : Operand) (ho : o.op = .convert t t' x) (hg : Region.wanted o (yielded ops a.tmps) = true) (k : FloatKind) (q : IntKind) (b : Nat) (hx : a.eval x = .float k b)
    (hs : (P.underlying t).isSome = true) (hd : P.underlying t' = some (.int q)) {n : Int} (hn : floatToIntVal k b q = some n)
    (h : wpList P ops Q rest (a.put o.dst (.int q n)) w) : wpList P ops Q (o :: rest) a w := by
  refine wpList_wanted hg fun K hK => ?_
  unfold Oper.wp execOp
  rw [ho]
  simp only [hx, Sem.run_bind, run_convert_float_int w t t' k q b n hs hd hn, Result.andThen_ok, Sem.run_pure]
  exact hK _ _ h

theorem wpList_ar (op : BinOp) (t : TypeId) (x y : Operand) (t' : TypeId) (ho : o.op = .binOp op t x y t') (hg : Region.wanted o (yielded ops a.tmps) = true) (hop : isArith op = true)
    (k : FloatKind) (p q : Nat) (hx : a.eval x = .float k p) (hy : a.eval y = .float k q) {u v : Option Nat} (hp : Is k p u) (hq : Is k q v)
    (h : ∀ r n, Is k r (fop op k u v) → wpList P ops Q rest (a.put o.dst (.float k r)) (w.drewN n)) : wpList P ops Q (o :: rest) a w :=
  wpList_farith op t x y t' ho hg hop k p q hx hy fun r n hr => h r n (by rw [hp.1, hq.1] at hr; exact hr)

theorem wpList_wi (t t' : TypeId) (x : Operand) (ho : o.op = .convert t t' x) (hg : Region.wanted o (yielded ops a.tmps) = true) (b : Nat) (hx : a.eval x = .float .f32 b)
    (hs : (P.underlying t).isSome = true) (hd : P.underlying t' = some (.float .f64)) {u : Option Nat} (hp : Is .f32 b u)
    (h : ∀ r n, Is .f64 r (widen u) → wpList P ops Q rest (a.put o.dst (.float .f64 r)) (w.drewN n)) : wpList P ops Q (o :: rest) a w :=
  wpList_widen t t' x ho hg b hx hs hd fun r n hr => h r n (by rw [hp.1] at hr; exact hr)

theorem wpList_na (t t' : TypeId) (x : Operand) (ho : o.op = .convert t t' x) (hg : Region.wanted o (yielded ops a.tmps) = true) (b : Nat) (hx : a.eval x = .float .f64 b)
    (hs : (P.underlying t).isSome = true) (hd : P.underlying t' = some (.float .f32)) {u : Option Nat} (hp : Is .f64 b u) (hok : NarrowOk u)
    (h : ∀ r n, Is .f32 r (narrow u) → wpList P ops Q rest (a.put o.dst (.float .f32 r)) (w.drewN n)) : wpList P ops Q (o :: rest) a w :=
  wpList_narrow t t' x ho hg b hx hs hd (by rw [hp.1]; exact hok) fun r n hr => h r n (by rw [hp.1] at hr; exact hr)

theorem wpList_cm (op : BinOp) (t : TypeId) (x y : Operand) (t' : TypeId) (ho : o.op = .binOp op t x y t') (hg : Region.wanted o (yielded ops a.tmps) = true) (hop : isCmp op = true)
    (k : FloatKind) (p q : Nat) (hx : a.eval x = .float k p) (hy : a.eval y = .float k q) {u v : Option Nat} (hp : Is k p u) (hq : Is k q v)
    (h : ∀ c : Bool, cmpV op k u v = c → wpList P ops Q rest (a.put o.dst (.bool c)) w) : wpList P ops Q (o :: rest) a w := by
  refine wpList_wanted hg fun K hK => ?_
  have hgd : (eqGuard op t x y (.float k p) (.float k q)).run P w = .ok () w := by
    cases op <;> first | (cases hop; done) | rfl
  have hrun : (binOp op t (.float k p) (.float k q)).run P w = .ok (.bool (cmpV op k u v)) w := by
    have hc := hp.order hq
    cases op <;> first | (cases hop; done) | (simp [binOp, Op.floatCmp, cmpV, hc])
  unfold Oper.wp execOp
  rw [ho]
  simp only [hx, hy, Sem.run_bind, hgd, Result.andThen_ok, hrun, Sem.run_pure]
  exact hK _ _ (h _ rfl)

theorem wpList_ne (t : TypeId) (x : Operand) (ho : o.op = .unOp .neg t x) (hg : Region.wanted o (yielded ops a.tmps) = true) (p : Nat) (hx : a.eval x = .float .f64 p) {u : Option Nat} (hp : Is .f64 p u)
    (h : ∀ r, Is .f64 r (fneg u) → wpList P ops Q rest (a.put o.dst (.float .f64 r)) w) : wpList P ops Q (o :: rest) a w := by
  refine wpList_wanted hg fun K hK => ?_
  unfold Oper.wp execOp
  rw [ho]
  simp only [hx, Op.unary, Sem.run_bind, Sem.run_pure, Result.andThen_ok]
  exact hK _ _ (h _ hp.neg)
end
end Go.Fl
