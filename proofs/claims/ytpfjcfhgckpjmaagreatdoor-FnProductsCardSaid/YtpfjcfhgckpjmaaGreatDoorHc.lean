/- Lists of complex numbers in single precision, each told by a code; widened, compared; marks. -/
import Derived.Test.YtpfjcfhgckpjmaaGreatDoorHs
import Derived.Test.YtpfjcfhgckpjmaaGreatDoorFa
import Derived.Laws.ComplexArith
namespace Go.Proofs.YtpfjcfhgckpjmaaGreatDoor.Hc
open Go.Fl Go.RowKit Ieee Go.Proofs.YtpfjcfhgckpjmaaGreatDoorW.PrintWords Go.Proofs.YtpfjcfhgckpjmaaGreatDoor
theorem pow_odd (a : Nat) : ∀ b c d : Nat, 2 ^ a * (2 * b + 1) = 2 ^ c * (2 * d + 1) → a = c ∧ b = d := by
  induction a with
  | zero =>
    intro b c d h
    cases c with
    | zero => simp at h; exact ⟨rfl, by omega⟩
    | succ c => rw [Nat.pow_succ, Nat.mul_assoc, Nat.mul_comm (2 ^ c), Nat.mul_assoc] at h; simp at h; omega
  | succ a ih =>
    intro b c d h
    cases c with
    | zero => rw [Nat.pow_succ, Nat.mul_assoc, Nat.mul_comm (2 ^ a), Nat.mul_assoc] at h; simp at h; omega
    | succ c =>
      rw [Nat.pow_succ, Nat.pow_succ, Nat.mul_right_comm, Nat.mul_right_comm (2 ^ c)] at h
      obtain ⟨h1, h2⟩ := ih b c d (Nat.eq_of_mul_eq_mul_right (by decide) h)
      exact ⟨by rw [h1], h2⟩
theorem pair_ex : ∃ f : Nat → Nat → Int, ∀ a b c d, f a b = f c d → a = c ∧ b = d :=
  ⟨fun a b => ((2 ^ a * (2 * b + 1) : Nat) : Int), fun a b c d h => pow_odd a b c d (Int.ofNat.inj h)⟩
/-- A code of two numbers. -/
noncomputable def pr : Nat → Nat → Int := Classical.choose pair_ex
theorem pr_inj {a b c d : Nat} (h : pr a b = pr c d) : a = c ∧ b = d := Classical.choose_spec pair_ex a b c d h
open Classical in
noncomputable def un (c : Int) : Nat × Nat := if h : ∃ p : Nat × Nat, pr p.1 p.2 = c then Classical.choose h else (0, 0)
theorem un_pr (a b : Nat) : un (pr a b) = (a, b) := by
  have h : ∃ p : Nat × Nat, pr p.1 p.2 = pr a b := ⟨(a, b), rfl⟩
  unfold un
  rw [dif_pos h]
  obtain ⟨h1, h2⟩ := pr_inj (Classical.choose_spec h)
  exact Prod.ext h1 h2
noncomputable def re (c : Int) : Nat := (un c).1
noncomputable def im (c : Int) : Nat := (un c).2
noncomputable def reI (c : Int) : Int := (re c : Int)
noncomputable def imI (c : Int) : Int := (im c : Int)
noncomputable def cx (a b : Int) : Int := pr a.toNat b.toNat
theorem re_cx (a b : Int) : re (cx a b) = a.toNat := by unfold re cx; rw [un_pr]
theorem im_cx (a b : Int) : im (cx a b) = b.toNat := by unfold im cx; rw [un_pr]
noncomputable def cv (c : Int) : Value := .complex .f32 (re c) (im c)
theorem cv_cx (a b : Int) : cv (cx a b) = .complex .f32 a.toNat b.toNat := by unfold cv; rw [re_cx, im_cx]
theorem cvl (a b : Int) : [Value.complex .f32 a.toNat b.toNat] = [cv (cx a b)] := by rw [cv_cx]
noncomputable def Kc : Kd Int := Kd.scalar cv (fun _ => rfl)
theorem at_cpx {w : World} {A : Option Addr} {n : Nat} {xs : List Int} (h : Kc.C w A n xs) (i : Int) (h0 : 0 ≤ i) (h1 : i < n) : ∃ ad, A = some ad ∧ w.cell? (ad.add i.toNat) = some (.complex .f32 (re (rd xs i)) (im (rd xs i))) :=
  ReadsOf.at_ (Kd.reads_of_C (enc := cv) (d := (0 : Int)) (h1 := fun _ => rfl) h) i h0 h1
@[go_sem] theorem run_store_complex (P : Program) (w : World) (a : Addr) (m : Mode) (k : FloatKind) (n o : Nat) : (store a (.complex k n o) m).run P w = stored P w a (.complex k n o) m := run_store P w a _ m rfl
section
variable {e : TypeId} {W : World} {base : Nat} {ok : Nat → Prop} {g n cap : Nat} {xs : List Int}
theorem celln (h : Kc.R e W base ok (.slice (some ⟨g, 0, none⟩) n cap) xs) (i : Int) (h0 : 0 ≤ i) (hi : i < n) : W.cell? ⟨g, i.toNat, none⟩ = some (.complex .f32 (re (rd xs i)) (im (rd xs i))) ∧ W.frozen? ⟨g, i.toNat, none⟩ = false :=
  Kd.R_celln (enc := cv) (h1 := fun _ => rfl) (0 : Int) h i h0 hi
theorem putg (h : Kc.R e W base ok (.slice (some ⟨g, 0, none⟩) n cap) xs) (i : Int) (x y : Int) : Kc.R e (W.setCell ⟨g, i.toNat, none⟩ (.complex .f32 x.toNat y.toNat)) base ok (.slice (some ⟨g, 0, none⟩) n cap) (xs.set i.toNat (cx x y)) ∧ W.grownBy (W.setCell ⟨g, i.toNat, none⟩ (.complex .f32 x.toNat y.toNat)) (some g) := by
  have := Kd.R_putg (enc := cv) (h1 := fun _ => rfl) h i (cx x y)
  rw [cv_cx] at this
  exact this
end
section
variable {P : Program} (w : World)
theorem run_cwiden (a b : Nat) : ∃ r s n, (Conv.complexToComplex .f32 a b .f64).run P w = .ok (.complex .f64 r s) (w.drewN n) ∧ Is .f64 r (widen (val .f32 a)) ∧ Is .f64 s (widen (val .f32 b)) := by
  obtain ⟨r, n, h1, h2⟩ := run_widen (P := P) w a
  obtain ⟨s, m, k1, k2⟩ := run_widen (P := P) (w.drewN n) b
  refine ⟨r, s, n + m, ?_, h2, k2⟩
  simp [Conv.complexToComplex, h1, k1]
theorem run_convert_cc (src dst : TypeId) (s k : FloatKind) (a b : Nat) (hs : (P.underlying src).isSome = true) (hd : P.underlying dst = some (.complex k)) :
    (convert src dst (.complex s a b)).run P w = (Conv.complexToComplex s a b k).run P w := by
  obtain ⟨u, hs'⟩ := Option.isSome_iff_exists.1 hs
  cases u <;> simp [convert, run_underlying hs', run_underlying hd]
end
section
variable {P : Program} {ops : Array Oper} {Q : Exit → Act → World → Prop}
/-- A complex number widened, as one step of a region that draws. -/
theorem cwiden_ {oi : Oper} {N : Option Tmp} {a : Act} {w : World} {K : Act → World → Prop} (t t' : TypeId) (x : Operand) (b c : Nat) (hw : Region.wanted oi (yielded ops a.tmps) = true) (hN : oi.dst = N) (ho : oi.op = .convert t t' x) (hx : a.eval x = .complex .f32 b c)
    (hs : (P.underlying t).isSome = true) (hd : P.underlying t' = some (.complex .f64))
    (h : ∀ r s n, Is .f64 r (widen (val .f32 b)) → Is .f64 s (widen (val .f32 c)) → K (a.put N (.complex .f64 r s)) (w.drewN n)) : if Region.wanted oi (yielded ops a.tmps) = true then Oper.wp P oi a w K Q else K (a.put N undef) w := by
  rw [if_pos hw]
  subst hN
  obtain ⟨r, s, n, hr, h1, h2⟩ := run_cwiden (P := P) w b c
  unfold Oper.wp execOp
  rw [ho]
  simp only [hx, Sem.run_bind, run_convert_cc w t t' .f32 .f64 b c hs hd, Result.andThen_ok, hr, Sem.run_pure]
  exact h r s n h1 h2
end
/-- A whole number as a single's bits, by way of a double; is it one? -/
def mr (x : Int) : Nat := (floatToFloatBits .f64 (Go.floatOfInt .f64 x) .f32).getD 0
def okC (x : Int) : Bool := (floatToFloatBits .f64 (Go.floatOfInt .f64 x) .f32).isSome && !FloatKind.f32.format.nan (mr x)
/-- A mark. -/
noncomputable def mkc (x : Int) : Int := cx (mr x : Int) 1065353216
theorem one32 : floatToFloatBits .f64 4607182418800017408 .f32 = some 1065353216 := by decide +kernel
theorem convC {x : Int} (h : okC x = true) (W : World) : (convert 55 42 (.complex .f64 (Go.floatOfInt .f64 x) 4607182418800017408)).run Tryz.prog W = .ok (.complex .f32 (mr x) 1065353216) W := by
  have hs : floatToFloatBits .f64 (Go.floatOfInt .f64 x) .f32 = some (mr x) := by
    unfold okC at h
    unfold mr
    cases e : floatToFloatBits .f64 (Go.floatOfInt .f64 x) .f32 with
    | none => rw [e] at h; simp at h
    | some r => rfl
  rw [run_convert_cc W 55 42 .f64 .f32 _ _ (by kernel_rfl) Tryz.underlying42]
  simp [Conv.complexToComplex, run_floatToFloat _ hs, run_floatToFloat _ one32]
theorem ceq {x : Int} (h : okC x = true) : (FloatKind.f32.format.order (mr x) (mr x) == some .eq) = true := by
  have := neq_self .f32 (mr x)
  unfold okC at h
  simp only [Bool.and_eq_true, Bool.not_eq_true'] at h
  rw [h.2] at this
  simpa using this
theorem ceq1 : (FloatKind.f32.format.order 1065353216 1065353216 == some .eq) = true := by decide +kernel
theorem re_mkc (x : Int) : re (mkc x) = mr x := by unfold mkc; rw [re_cx]; rfl
theorem im_mkc (x : Int) : im (mkc x) = 1065353216 := by unfold mkc; rw [im_cx]; rfl
theorem cellmk {w : World} {ad : Addr} {l : List Int} {i x : Int} (h : w.cell? ad = some (.complex .f32 (re (rd l i)) (im (rd l i)))) (e : rd l i = mkc x) : w.cell? ad = some (.complex .f32 (mr x) 1065353216) := by
  rw [e, re_mkc, im_mkc] at h; exact h
end Go.Proofs.YtpfjcfhgckpjmaaGreatDoor.Hc
