/- The plain law of FnExactDecimal, over the functions beside: program and reference answer alike. No condition beyond the stated bounds. -/
import Derived.Test.YtdklgllbemiicaaDoorQFnExactDecimalx1
namespace Go.Proofs.YtdklgllbemiicaaDoor.Pure
open Go.RowKit Go.Proofs.YtdklgllbemiicaaDoor.QFnExactDecimal Go.Proofs.YtdklgllbemiicaaDoorW.PrintWords Go.Proofs.YtdklgllbemiicaaDoorW.PrintLast
set_option linter.unusedSimpArgs false
set_option linter.unusedVariables false

namespace FnExactDecimalParts
/-- The digits of a number, as whole numbers. -/
def digs (u : Nat) : List Int := (Lib.decDigits u).map fun b => (b.toNat : Int)
theorem digs_small (u : Nat) (h : u < 10) : digs u = [48 + (u : Int)] := by
  unfold digs
  rw [Lib.decDigits, dif_pos h]
  have : (UInt8.ofNat (48 + u)).toNat = 48 + u := by rw [UInt8.toNat_ofNat']; omega
  simp only [List.map_cons, List.map_nil, this]
  simp
theorem digs_step (u : Nat) (h : ¬ u < 10) : digs u = digs (u / 10) ++ [48 + ((u % 10 : Nat) : Int)] := by
  unfold digs
  rw [Lib.decDigits, dif_neg h]
  have : (UInt8.ofNat (48 + u % 10)).toNat = 48 + u % 10 := by rw [UInt8.toNat_ofNat']; omega
  simp only [List.map_append, List.map_cons, List.map_nil, this]
  simp
theorem digs_ne (u : Nat) : digs u ≠ [] := by
  by_cases h : u < 10
  · rw [digs_small u h]; simp
  · rw [digs_step u h]; simp
theorem digs_len (n : Nat) : ∀ u, u < 10 ^ (n + 1) → (digs u).length ≤ n + 1 := by
  induction n with
  | zero => intro u h; rw [digs_small u (by simpa using h)]; simp
  | succ n ih =>
    intro u h
    by_cases h' : u < 10
    · rw [digs_small u h']; simp
    · rw [digs_step u h']
      have := ih (u / 10) (by rw [Nat.pow_succ] at h; omega)
      simp only [List.length_append, List.length_cons, List.length_nil]
      omega
theorem nums_map (l : List UInt8) : strOfNums (l.map fun b => (b.toNat : Int)) = ⟨l.toArray⟩ := by
  unfold strOfNums
  congr 2
  rw [List.map_map]
  conv => rhs; rw [← List.map_id l]
  apply List.map_congr_left
  intro b _
  simp
theorem str_digs (u : Nat) : strOfNums (digs u) = ⟨(Lib.decDigits u).toArray⟩ := by
  unfold digs; exact nums_map _
theorem str_neg (u : Nat) : strOfNums (45 :: digs u) = ⟨(45 :: Lib.decDigits u).toArray⟩ := by
  unfold digs
  have := nums_map (45 :: Lib.decDigits u)
  rw [List.map_cons] at this
  exact this
/-- The end of the reference's rounds. -/
def fin (x0 : Int) (d : List Int) : ByteArray := if x0 < 0 then strOfNums (45 :: d) else strOfNums d
theorem dec_end (k : Nat) (x0 : Int) (x3 : List Int) (h3 : x3 ≠ []) (hl : x3.length ≤ 1000) : spec_l01Dec.l0 (k + 2) x0 x3 0 = some (fin x0 x3) := by
  simp only [spec_l01Dec.l0]
  have e : ¬ (x3.length : Int) = 0 := by
    intro h; apply h3; exact List.eq_nil_of_length_eq_zero (by omega)
  rw [if_neg e]
  have e0 : ((0 : Int) != 0) = false := rfl
  rw [e0]
  simp only [spec_l01Dec.j1]
  rw [if_neg (by decide)]
  unfold fin
  by_cases h : x0 < 0
  · rw [if_pos h, if_pos h]
    simp only [Option.bind_some]
    rw [if_pos (by simp only [List.length_cons, List.length_nil]; omega)]
    rfl
  · rw [if_neg h, if_neg h]
theorem tmod_sign (x : Int) (u : Nat) (h : x.natAbs = u) : (Int.tmod x 10 < 0 ∧ Int.tmod x 10 = -((u % 10 : Nat) : Int)) ∨ (¬ Int.tmod x 10 < 0 ∧ Int.tmod x 10 = ((u % 10 : Nat) : Int)) := by
  subst h
  rcases Int.natAbs_eq x with e | e
  · right
    have : Int.tmod x 10 = ((x.natAbs % 10 : Nat) : Int) := by
      conv => lhs; rw [e]
      exact (Int.ofNat_tmod x.natAbs 10).symm
    rw [this]; exact ⟨by omega, rfl⟩
  · have : Int.tmod x 10 = -((x.natAbs % 10 : Nat) : Int) := by
      conv => lhs; rw [e]
      rw [Int.neg_tmod]
      exact congrArg _ (Int.ofNat_tmod x.natAbs 10).symm
    by_cases h : x.natAbs % 10 = 0
    · right; rw [this, h]; exact ⟨by decide, by decide⟩
    · left; rw [this]; exact ⟨by omega, rfl⟩
theorem tdiv_abs (x : Int) : (Int.tdiv x 10).natAbs = x.natAbs / 10 := by
  rw [Int.natAbs_tdiv]; rfl
theorem dec_step (k : Nat) (x0 : Int) (x3 : List Int) (x4 : Int) (u : Nat) (hu : x4.natAbs = u) (hx : -9223372036854775808 ≤ x4 ∧ x4 ≤ 9223372036854775807) (h3 : x4 ≠ 0 ∨ x3 = []) (hl : x3.length ≤ 1000) :
    spec_l01Dec.l0 (k + 2) x0 x3 x4 = spec_l01Dec.l0 k x0 ((48 + ((u % 10 : Nat) : Int)) :: x3) (Int.tdiv x4 10) := by
  have hj : spec_l01Dec.l0 (k + 2) x0 x3 x4 = spec_l01Dec.j1 (k + 1) x0 x3 x4 true := by
    simp only [spec_l01Dec.l0]
    by_cases e : (x3.length : Int) = 0
    · rw [if_pos e]
    · rw [if_neg e]
      have : x4 ≠ 0 := by
        rcases h3 with h | h
        · exact h
        · subst h; simp at e
      rw [bne_iff_ne.mpr this]
  rw [hj]
  simp only [spec_l01Dec.j1]
  rw [if_pos trivial]
  have hdiv : wrap64 (Int.tdiv x4 10) = Int.tdiv x4 10 := by
    have h1 := tdiv_abs x4
    have h2 : x4.natAbs ≤ 9223372036854775808 := by omega
    unfold wrap64; omega
  rw [hdiv]
  have hm : u % 10 < 10 := Nat.mod_lt _ (by decide)
  rcases tmod_sign x4 u hu with ⟨hs, hv⟩ | ⟨hs, hv⟩
  · rw [if_pos hs]
    simp only [Option.bind_some]
    rw [if_pos (by simp only [List.length_cons, List.length_nil]; omega), hv]
    have : wrap64 (48 + wrap64 (- -((u % 10 : Nat) : Int))) % 256 = 48 + ((u % 10 : Nat) : Int) := by unfold wrap64; omega
    rw [this]; rfl
  · rw [if_neg hs]
    simp only [Option.bind_some]
    rw [if_pos (by simp only [List.length_cons, List.length_nil]; omega), hv]
    have : wrap64 (48 + ((u % 10 : Nat) : Int)) % 256 = 48 + ((u % 10 : Nat) : Int) := by unfold wrap64; omega
    rw [this]; rfl
theorem dec_loop (n : Nat) : ∀ (k u : Nat) (x0 : Int) (x3 : List Int) (x4 : Int), x4.natAbs = u → (-9223372036854775808 ≤ x4 ∧ x4 ≤ 9223372036854775807) → (x4 ≠ 0 ∨ x3 = []) → u < 10 ^ (n + 1) → x3.length + n ≤ 900 →
    spec_l01Dec.l0 (k + 2 + 2 * (n + 1)) x0 x3 x4 = some (fin x0 (digs u ++ x3)) := by
  induction n with
  | zero =>
    intro k u x0 x3 x4 hu hx h3 hn hl
    have hs : u < 10 := by simpa using hn
    rw [show k + 2 + 2 * (0 + 1) = (k + 2) + 2 by omega, dec_step (k + 2) x0 x3 x4 u hu hx h3 (by omega)]
    have h0 : Int.tdiv x4 10 = 0 := by have := tdiv_abs x4; omega
    rw [h0, dec_end k x0 _ (by simp) (by simp only [List.length_cons]; omega), digs_small u hs, Nat.mod_eq_of_lt hs]
    rfl
  | succ n ih =>
    intro k u x0 x3 x4 hu hx h3 hn hl
    by_cases hs : u < 10
    · rw [show k + 2 + 2 * (n + 1 + 1) = (k + 2 * (n + 1)) + 2 + 2 by omega, dec_step _ x0 x3 x4 u hu hx h3 (by omega)]
      have h0 : Int.tdiv x4 10 = 0 := by have := tdiv_abs x4; omega
      rw [h0, dec_end _ x0 _ (by simp) (by simp only [List.length_cons]; omega), digs_small u hs, Nat.mod_eq_of_lt hs]
      rfl
    · rw [show k + 2 + 2 * (n + 1 + 1) = (k + 2 + 2 * (n + 1)) + 2 by omega, dec_step _ x0 x3 x4 u hu hx h3 (by omega)]
      have ha := tdiv_abs x4
      have hn' : u / 10 < 10 ^ (n + 1) := by rw [Nat.pow_succ] at hn; exact Nat.div_lt_of_lt_mul (by rw [Nat.mul_comm]; exact hn)
      clear hn
      rw [ih k (u / 10) x0 _ (Int.tdiv x4 10) (by rw [ha, hu]) (by clear hn'; omega) (Or.inl (by clear hn'; intro h; rw [h] at ha; simp at ha; omega)) hn' (by simp only [List.length_cons]; omega), digs_step u hs, List.append_assoc]
      rfl
/-- The reference's decimal text is the library's. -/
theorem dec_f (k : Nat) (hk : 44 ≤ k) (x : Int) (hx : -9223372036854775808 ≤ x ∧ x ≤ 9223372036854775807) : spec_l01Dec.f k x = some ⟨(Lib.itoa x).toArray⟩ := by
  unfold spec_l01Dec.f
  obtain ⟨d, rfl⟩ : ∃ d, k = d + 2 + 2 * (19 + 1) := ⟨k - 42, by omega⟩
  have hn : x.natAbs < 10 ^ (19 + 1) := by
    have h1 : x.natAbs ≤ 9223372036854775808 := by omega
    exact Nat.lt_of_le_of_lt h1 (by decide)
  rw [dec_loop 19 d x.natAbs x [] x rfl hx (Or.inr rfl) hn (by decide), List.append_nil]
  clear hn
  unfold fin Lib.itoa
  by_cases h : x < 0
  · rw [if_pos h, if_pos h, str_neg]
  · rw [if_neg h, if_neg h, str_digs]
    have : x.toNat = x.natAbs := by omega
    rw [this]

end FnExactDecimalParts
open FnExactDecimalParts

theorem FnExactDecimal (x : Int) (hx : -9223372036854775808 ≤ x ∧ x ≤ 9223372036854775807) : ∃ k, laws_FnExactDecimal.f k x = some true := by
  refine ⟨44, ?_⟩
  unfold laws_FnExactDecimal.f spec_Decimal.f impl_Decimal.f strconv_FormatInt_20.f
  rw [dec_f 44 (Nat.le_refl _) x hx, if_pos ⟨rfl, hx⟩]
  simp only [Option.bind_some, if_true]

/-- The walk, joined with the plain law. -/
theorem decimalWalk (x : Int) (w : World) (hx : (Lit.int .i64 x).wf = true) (ht : Go.Proofs.YtdklgllbemiicaaDoor.Tb.TB w) :
    Calls Tryd.prog 3 #[.int .i64 x] w fun e w' => e = .returned (.bool true) ∧ Below w.heap.size w w' := by
  obtain ⟨k, h⟩ := FnExactDecimal x (by simp [Lit.wf] at hx; exact ⟨hx.1, hx.2⟩)
  exact laws_FnExactDecimal.calls k x true w ht h

end Go.Proofs.YtdklgllbemiicaaDoor.Pure
