/- Lists of numbers in single precision, their bits as whole numbers; sums, a NaN among them told by -1. -/
import Derived.Test.YtpfjcfhgckpjmaaGreatDoorA
import Derived.Test.YtpfjcfhgckpjmaaGreatDoorFa
import Derived.Test.YtpfjcfhgckpjmaaGreatDoorWMore
import Derived.Deep.Slices
import Derived.Laws.Cover2
namespace Go.Proofs.YtpfjcfhgckpjmaaGreatDoor.Ft
open Go.Fl Go.RowKit Ieee Go.Proofs.YtpfjcfhgckpjmaaGreatDoorW.PrintWords

def fv (i : Int) : Value := .float .f32 i.toNat
def Kf : Kd Int := Kd.scalar fv (fun _ => rfl)
theorem at_flt {w : World} {A : Option Addr} {n : Nat} {xs : List Int} (h : Kf.C w A n xs) (i : Int) (h0 : 0 ≤ i) (h1 : i < n) : ∃ ad, A = some ad ∧ w.cell? (ad.add i.toNat) = some (.float .f32 (rd xs i).toNat) :=
  ReadsOf.at_ (Kd.reads_of_C (enc := fv) (d := (0 : Int)) (h1 := fun _ => rfl) h) i h0 h1
/-- A number is stored as every other value of one cell is. -/
@[go_sem] theorem run_store_float (P : Program) (w : World) (a : Addr) (m : Mode) (k : FloatKind) (n : Nat) : (store a (.float k n) m).run P w = stored P w a (.float k n) m := run_store P w a _ m rfl
/-- A number out of its code. -/
def dec (x : Int) : Option Nat := if x < 0 then none else some x.toNat
def enc : Option Nat → Int
  | none => -1
  | some b => b
theorem dec_enc (v : Option Nat) : dec (enc v) = v := by
  cases v with
  | none => rfl
  | some b => show (if ((b : Nat) : Int) < 0 then none else some ((b : Nat) : Int).toNat) = some b; rw [if_neg (by omega)]; rfl
/-- The next sum: a number's code, and a number's bits. -/
def addE (x y : Int) : Int := enc (fop .add .f32 (dec x) (val .f32 y.toNat))
theorem is0 : Is .f32 0 (dec 0) := Is.const32 (by decide)
theorem isAdd {x y : Int} {b r : Nat} (hb : Is .f32 b (dec x)) (h : Is .f32 r (fop .add .f32 (val .f32 b) (val .f32 y.toNat))) : Is .f32 r (dec (addE x y)) := by
  unfold addE; rw [dec_enc, ← hb.1]; exact h
/-- The next sum of products. -/
def dotE (s x y : Int) : Int := enc (fop .add .f32 (dec s) (fop .mul .f32 (val .f32 x.toNat) (val .f32 y.toNat)))
theorem isDot {s x y : Int} {b m r : Nat} (hb : Is .f32 b (dec s)) (hm : Is .f32 m (fop .mul .f32 (val .f32 x.toNat) (val .f32 y.toNat))) (h : Is .f32 r (fop .add .f32 (val .f32 b) (val .f32 m))) : Is .f32 r (dec (dotE s x y)) := by
  unfold dotE; rw [dec_enc, ← hb.1, ← hm.1]; exact h
section
variable {e : TypeId} {W : World} {base : Nat} {ok : Nat → Prop} {g n cap : Nat} {xs : List Int}
theorem celln (h : Kf.R e W base ok (.slice (some ⟨g, 0, none⟩) n cap) xs) (i : Int) (h0 : 0 ≤ i) (hi : i < n) : W.cell? ⟨g, i.toNat, none⟩ = some (.float .f32 (rd xs i).toNat) ∧ W.frozen? ⟨g, i.toNat, none⟩ = false :=
  Kd.R_celln (enc := fv) (h1 := fun _ => rfl) (0 : Int) h i h0 hi
theorem putg (h : Kf.R e W base ok (.slice (some ⟨g, 0, none⟩) n cap) xs) (i : Int) (x : Int) : Kf.R e (W.setCell ⟨g, i.toNat, none⟩ (.float .f32 x.toNat)) base ok (.slice (some ⟨g, 0, none⟩) n cap) (xs.set i.toNat x) ∧ W.grownBy (W.setCell ⟨g, i.toNat, none⟩ (.float .f32 x.toNat)) (some g) :=
  Kd.R_putg (enc := fv) (h1 := fun _ => rfl) h i x
end
section
open Go.ChangeShapes Go.WideShapes Go.Deep
variable {H : Type} {enc : TypeId × Value → H} {P : Program} {w : World} {base : Nat} {spare : Nat → Bool} {held : Bool}
def bitsOf : Value → Int
  | .float _ b => b
  | _ => 0
theorem float_cell {e : TypeId} {n : Nat} {v : Value} {d : DataW H × List MemPlace} (he : P.underlying e = some (.float .f32)) (h : DataW.trod enc P w base spare held n e [v] = some d) : v = .float .f32 (bitsOf v).toNat := by
  cases n with
  | zero => simp [DataW.trod] at h
  | succ n =>
    simp only [DataW.trod, he] at h
    cases v <;> simp_all [bitsOf]
/-- A list of numbers among the arguments. -/
theorem rowF {r : Reach} {b0 : Nat} {t e : TypeId} {v : Value} {d : DataW H} {ps : List MemPlace} (ht : P.underlying t = some (.slice e)) (he : P.underlying e = some (.float .f32)) (hc : P.cellsOf e = 1) (hval : Value.okWide P w r b0 t v) (hd : DataW.Trod enc P w base spare held t v d ps) :
    ∃ (A : Option Addr) (cap : Nat) (l : List Int), v = .slice A l.length cap ∧ Kf.C w A l.length l ∧ l.length ≤ cap ∧ l.length ≤ maxLen := by
  obtain ⟨a0, len0, cap0, rfl⟩ := okWide_slice ht hval
  obtain ⟨fuel, hf⟩ := hd
  rcases open_slice1 ht hc hf with ⟨hcs, _⟩ | ⟨a, len, cap, m, n, V, D, Pl, hcs, _, hl, hm, hmm, _, hV⟩
  · simp [Value.cells] at hcs
    obtain ⟨rfl, rfl, rfl⟩ := hcs
    exact ⟨none, 0, [], rfl, Kd.C_of_reads (d := (0 : Int)) ⟨rfl, by decide, fun h => absurd h (by decide)⟩, Nat.le_refl _, Nat.zero_le _⟩
  · simp [Value.cells] at hcs
    obtain ⟨rfl, rfl, rfl⟩ := hcs
    have hlen : ((List.range len0).map fun i => bitsOf (V i)).length = len0 := by simp
    have hle : len0 ≤ m := by rw [hmm]; split <;> omega
    refine ⟨some a, cap0, (List.range len0).map fun i => bitsOf (V i), by rw [hlen], Kd.C_of_reads (d := (0 : Int)) ⟨rfl, ?_, fun _ => ⟨a, rfl, fun j hj => ?_⟩⟩, by rw [hlen]; exact hl, by rw [hlen]; omega⟩
    · rw [hlen]; unfold maxLen at hm; omega
    · rw [hlen] at hj
      obtain ⟨h1, h2⟩ := hV j (by omega)
      have h3 := float_cell he h2
      rw [h1, h3]
      simp [fv, List.getD_eq_getElem?_getD, hj, bitsOf]
end
section
variable {P : Program} {ops : Array Oper} {Q : Exit → Act → World → Prop}
/-- A number widened, as one step of a region that draws. -/
theorem widen_ {oi : Oper} {N : Option Tmp} {a : Act} {w : World} {K : Act → World → Prop} (t t' : TypeId) (x : Operand) (b : Nat) (hw : Region.wanted oi (yielded ops a.tmps) = true) (hN : oi.dst = N) (ho : oi.op = .convert t t' x) (hx : a.eval x = .float .f32 b)
    (hs : (P.underlying t).isSome = true) (hd : P.underlying t' = some (.float .f64))
    (h : ∀ r n, Is .f64 r (widen (val .f32 b)) → K (a.put N (.float .f64 r)) (w.drewN n)) : if Region.wanted oi (yielded ops a.tmps) = true then Oper.wp P oi a w K Q else K (a.put N undef) w := by
  rw [if_pos hw]
  subst hN
  obtain ⟨r, n, hr, hv⟩ := run_widen (P := P) w b
  unfold Oper.wp execOp
  rw [ho]
  simp only [hx, Sem.run_bind, run_convert_ff w t t' .f32 .f64 b hs hd, Result.andThen_ok, hr, Sem.run_pure]
  exact h r n hv
/-- A sum, a product .. of two numbers, as one step of a region that draws. -/
theorem arith_ {oi : Oper} {N : Option Tmp} {a : Act} {w : World} {K : Act → World → Prop} (op : BinOp) (t : TypeId) (x y : Operand) (t' : TypeId) (k : FloatKind) (p q : Nat) (hw : Region.wanted oi (yielded ops a.tmps) = true) (hN : oi.dst = N) (ho : oi.op = .binOp op t x y t') (hop : isArith op = true) (hx : a.eval x = .float k p) (hy : a.eval y = .float k q)
    (h : ∀ r n, Is k r (fop op k (val k p) (val k q)) → K (a.put N (.float k r)) (w.drewN n)) : if Region.wanted oi (yielded ops a.tmps) = true then Oper.wp P oi a w K Q else K (a.put N undef) w := by
  rw [if_pos hw]
  subst hN
  obtain ⟨r, n, hr, hv⟩ := run_farith (P := P) w op hop t k p q
  have hgd : ∀ u v : Value, (eqGuard op t x y u v).run P w = .ok () w := by
    intro u v
    cases op <;> first | (cases hop; done) | rfl
  unfold Oper.wp execOp
  rw [ho]
  simp only [hx, hy, Sem.run_bind, hgd, Result.andThen_ok, hr, Sem.run_pure]
  exact h r n hv
end
end Go.Proofs.YtpfjcfhgckpjmaaGreatDoor.Ft
