/- The plain law of FnExactReadList, over the functions beside: program and reference answer alike. No condition beyond the stated bounds. -/
import Derived.Test.YtdklgllbemiicaaDoorQFnExactReadListx3
namespace Go.Proofs.YtdklgllbemiicaaDoor.Pure
open Go.RowKit Go.Proofs.YtdklgllbemiicaaDoor.QFnExactReadList Go.Proofs.YtdklgllbemiicaaDoorW.PrintWords Go.Proofs.YtdklgllbemiicaaDoorW.PrintLast
set_option linter.unusedSimpArgs false
set_option linter.unusedVariables false

namespace FnExactReadListParts
theorem eq_loop (x0 : List Int) (hn : x0.length ≤ 140737488351232) (d : Nat) : ∀ (k : Nat) (i : Int), 0 ≤ i → (x0.length : Int) - i = d → d < k → laws_eqInt64S.l0 k x0 x0 i = some true := by
  induction d with
  | zero =>
    intro k i h0 hd hk
    obtain ⟨k, rfl⟩ : ∃ m, k = m + 1 := ⟨k - 1, by omega⟩
    simp only [laws_eqInt64S.l0]
    rw [if_neg (by omega)]
  | succ d ih =>
    intro k i h0 hd hk
    obtain ⟨k, rfl⟩ : ∃ m, k = m + 1 := ⟨k - 1, by omega⟩
    simp only [laws_eqInt64S.l0]
    rw [if_pos (by omega), if_pos h0, if_pos (by omega), if_pos trivial, show wrap64 (i + 1) = i + 1 by unfold wrap64; omega]
    exact ih k (i + 1) (by omega) (by omega) (by omega)

theorem eq_f (x0 : List Int) (hn : x0.length ≤ 140737488351232) (k : Nat) (hk : x0.length < k) : laws_eqInt64S.f k x0 x0 = some true := by
  unfold laws_eqInt64S.f
  rw [if_pos rfl]
  exact eq_loop x0 hn x0.length k 0 (by omega) (by omega) hk

/-- What marking leaves: a, a + 1, .. -/
def Marked (a : Int) (x : List Int) : Prop := ∀ j : Nat, j < x.length → x[j]? = some (a + j)

theorem mark_loop (n : Nat) (hn : n ≤ 140737488351232) (d : Nat) : ∀ (k : Nat) (x : List Int) (i a : Int), 0 ≤ i → x.length = n → (n : Int) - i = d → a = 1 + i →
    (∀ j : Nat, (j : Int) < i → x[j]? = some (1 + (j : Int))) → d < k → ∃ y, laws_markInt64S.l0 k x a i = some (1 + (n : Int), y) ∧ y.length = n ∧ Marked 1 y := by
  induction d with
  | zero =>
    intro k x i a h0 hl hd ha hj hk
    obtain ⟨k, rfl⟩ : ∃ m, k = m + 1 := ⟨k - 1, by omega⟩
    simp only [laws_markInt64S.l0]
    rw [if_neg (by omega)]
    exact ⟨x, by rw [show a = 1 + (n : Int) by omega], hl, fun j h => hj j (by omega)⟩
  | succ d ih =>
    intro k x i a h0 hl hd ha hj hk
    obtain ⟨k, rfl⟩ : ∃ m, k = m + 1 := ⟨k - 1, by omega⟩
    simp only [laws_markInt64S.l0]
    rw [if_pos (by omega), if_pos h0, show wrap64 (i + 1) = i + 1 by unfold wrap64; omega, show wrap64 (a + 1) = a + 1 by unfold wrap64; omega]
    refine ih k _ (i + 1) (a + 1) (by omega) (by simpa using hl) (by omega) (by omega) ?_ (by omega)
    intro j hlt
    rw [List.getElem?_set]
    by_cases h : i.toNat = j
    · subst h
      rw [if_pos rfl, if_pos (by omega)]
      congr 1; omega
    · rw [if_neg h]
      exact hj j (by omega)

theorem mark_f (x : List Int) (hn : x.length ≤ 140737488351232) (k : Nat) (hk : x.length < k) : ∃ y, laws_markInt64S.f k x 1 = some (1 + (x.length : Int), y) ∧ y.length = x.length ∧ Marked 1 y := by
  unfold laws_markInt64S.f
  exact mark_loop x.length hn x.length k x 0 1 (by omega) rfl (by omega) (by omega) (by intro j h; omega) hk

theorem held_loop (x : List Int) (hn : x.length ≤ 140737488351232) (hm : Marked 1 x) (d : Nat) : ∀ (k : Nat) (i a : Int), 0 ≤ i → (x.length : Int) - i = d → a = 1 + i → d < k →
    laws_heldInt64S.l0 k x a i = some (1 + (x.length : Int)) := by
  induction d with
  | zero =>
    intro k i a h0 hd ha hk
    obtain ⟨k, rfl⟩ : ∃ m, k = m + 1 := ⟨k - 1, by omega⟩
    simp only [laws_heldInt64S.l0]
    rw [if_neg (by omega)]
    congr 1; omega
  | succ d ih =>
    intro k i a h0 hd ha hk
    obtain ⟨k, rfl⟩ : ∃ m, k = m + 1 := ⟨k - 1, by omega⟩
    simp only [laws_heldInt64S.l0]
    have hr : rd x i = a := by
      have h1 := hm i.toNat (by omega)
      unfold rd
      rw [List.getD_eq_getElem?_getD, h1]
      simp; omega
    rw [if_pos (by omega), if_pos h0, if_pos hr, show wrap64 (i + 1) = i + 1 by unfold wrap64; omega, show wrap64 (a + 1) = a + 1 by unfold wrap64; omega]
    exact ih k (i + 1) (a + 1) (by omega) (by omega) (by omega) (by omega)

theorem held_f (x : List Int) (hn : x.length ≤ 140737488351232) (hm : Marked 1 x) (k : Nat) (hk : x.length < k) : laws_heldInt64S.f k x 1 = some (1 + (x.length : Int)) := by
  unfold laws_heldInt64S.f
  exact held_loop x hn hm x.length k 0 1 (by omega) (by omega) (by omega) hk

/-- The digits of a number, as whole numbers. -/
def digs (u : Nat) : List Int := (Lib.decDigits u).map fun b => (b.toNat : Int)
theorem digs_small (u : Nat) (h : u < 10) : digs u = [48 + (u : Int)] := by
  unfold digs
  rw [Lib.decDigits, dif_pos h]
  have : (UInt8.ofNat (48 + u)).toNat = 48 + u := by rw [UInt8.toNat_ofNat']; omega
  simp only [List.map_cons, List.map_nil, this]
  simp
theorem digs_step (u : Nat) (h : ¬ u < 10) : digs u = digs (u / 10) ++ [48 + ((u % 10 : Nat) : Int)] := by
  unfold digs
  rw [Lib.decDigits, dif_neg h]
  have : (UInt8.ofNat (48 + u % 10)).toNat = 48 + u % 10 := by rw [UInt8.toNat_ofNat']; omega
  simp only [List.map_append, List.map_cons, List.map_nil, this]
  simp
theorem digs_ne (u : Nat) : digs u ≠ [] := by
  by_cases h : u < 10
  · rw [digs_small u h]; simp
  · rw [digs_step u h]; simp
theorem digs_len (n : Nat) : ∀ u, u < 10 ^ (n + 1) → (digs u).length ≤ n + 1 := by
  induction n with
  | zero => intro u h; rw [digs_small u (by simpa using h)]; simp
  | succ n ih =>
    intro u h
    by_cases h' : u < 10
    · rw [digs_small u h']; simp
    · rw [digs_step u h']
      have := ih (u / 10) (by rw [Nat.pow_succ] at h; omega)
      simp only [List.length_append, List.length_cons, List.length_nil]
      omega
theorem nums_map (l : List UInt8) : strOfNums (l.map fun b => (b.toNat : Int)) = ⟨l.toArray⟩ := by
  unfold strOfNums
  congr 2
  rw [List.map_map]
  conv => rhs; rw [← List.map_id l]
  apply List.map_congr_left
  intro b _
  simp
theorem str_digs (u : Nat) : strOfNums (digs u) = ⟨(Lib.decDigits u).toArray⟩ := by
  unfold digs; exact nums_map _
theorem str_neg (u : Nat) : strOfNums (45 :: digs u) = ⟨(45 :: Lib.decDigits u).toArray⟩ := by
  unfold digs
  have := nums_map (45 :: Lib.decDigits u)
  rw [List.map_cons] at this
  exact this
/-- The end of the reference's rounds. -/
def fin (x0 : Int) (d : List Int) : ByteArray := if x0 < 0 then strOfNums (45 :: d) else strOfNums d
theorem dec_end (k : Nat) (x0 : Int) (x3 : List Int) (h3 : x3 ≠ []) (hl : x3.length ≤ 1000) : spec_l01Dec.l0 (k + 2) x0 x3 0 = some (fin x0 x3) := by
  simp only [spec_l01Dec.l0]
  have e : ¬ (x3.length : Int) = 0 := by
    intro h; apply h3; exact List.eq_nil_of_length_eq_zero (by omega)
  rw [if_neg e]
  have e0 : ((0 : Int) != 0) = false := rfl
  rw [e0]
  simp only [spec_l01Dec.j1]
  rw [if_neg (by decide)]
  unfold fin
  by_cases h : x0 < 0
  · rw [if_pos h, if_pos h]
    simp only [Option.bind_some]
    rw [if_pos (by simp only [List.length_cons, List.length_nil]; omega)]
    rfl
  · rw [if_neg h, if_neg h]
theorem tmod_sign (x : Int) (u : Nat) (h : x.natAbs = u) : (Int.tmod x 10 < 0 ∧ Int.tmod x 10 = -((u % 10 : Nat) : Int)) ∨ (¬ Int.tmod x 10 < 0 ∧ Int.tmod x 10 = ((u % 10 : Nat) : Int)) := by
  subst h
  rcases Int.natAbs_eq x with e | e
  · right
    have : Int.tmod x 10 = ((x.natAbs % 10 : Nat) : Int) := by
      conv => lhs; rw [e]
      exact (Int.ofNat_tmod x.natAbs 10).symm
    rw [this]; exact ⟨by omega, rfl⟩
  · have : Int.tmod x 10 = -((x.natAbs % 10 : Nat) : Int) := by
      conv => lhs; rw [e]
      rw [Int.neg_tmod]
      exact congrArg _ (Int.ofNat_tmod x.natAbs 10).symm
    by_cases h : x.natAbs % 10 = 0
    · right; rw [this, h]; exact ⟨by decide, by decide⟩
    · left; rw [this]; exact ⟨by omega, rfl⟩
theorem tdiv_abs (x : Int) : (Int.tdiv x 10).natAbs = x.natAbs / 10 := by
  rw [Int.natAbs_tdiv]; rfl
theorem dec_step (k : Nat) (x0 : Int) (x3 : List Int) (x4 : Int) (u : Nat) (hu : x4.natAbs = u) (hx : -9223372036854775808 ≤ x4 ∧ x4 ≤ 9223372036854775807) (h3 : x4 ≠ 0 ∨ x3 = []) (hl : x3.length ≤ 1000) :
    spec_l01Dec.l0 (k + 2) x0 x3 x4 = spec_l01Dec.l0 k x0 ((48 + ((u % 10 : Nat) : Int)) :: x3) (Int.tdiv x4 10) := by
  have hj : spec_l01Dec.l0 (k + 2) x0 x3 x4 = spec_l01Dec.j1 (k + 1) x0 x3 x4 true := by
    simp only [spec_l01Dec.l0]
    by_cases e : (x3.length : Int) = 0
    · rw [if_pos e]
    · rw [if_neg e]
      have : x4 ≠ 0 := by
        rcases h3 with h | h
        · exact h
        · subst h; simp at e
      rw [bne_iff_ne.mpr this]
  rw [hj]
  simp only [spec_l01Dec.j1]
  rw [if_pos trivial]
  have hdiv : wrap64 (Int.tdiv x4 10) = Int.tdiv x4 10 := by
    have h1 := tdiv_abs x4
    have h2 : x4.natAbs ≤ 9223372036854775808 := by omega
    unfold wrap64; omega
  rw [hdiv]
  have hm : u % 10 < 10 := Nat.mod_lt _ (by decide)
  rcases tmod_sign x4 u hu with ⟨hs, hv⟩ | ⟨hs, hv⟩
  · rw [if_pos hs]
    simp only [Option.bind_some]
    rw [if_pos (by simp only [List.length_cons, List.length_nil]; omega), hv]
    have : wrap64 (48 + wrap64 (- -((u % 10 : Nat) : Int))) % 256 = 48 + ((u % 10 : Nat) : Int) := by unfold wrap64; omega
    rw [this]; rfl
  · rw [if_neg hs]
    simp only [Option.bind_some]
    rw [if_pos (by simp only [List.length_cons, List.length_nil]; omega), hv]
    have : wrap64 (48 + ((u % 10 : Nat) : Int)) % 256 = 48 + ((u % 10 : Nat) : Int) := by unfold wrap64; omega
    rw [this]; rfl
theorem dec_loop (n : Nat) : ∀ (k u : Nat) (x0 : Int) (x3 : List Int) (x4 : Int), x4.natAbs = u → (-9223372036854775808 ≤ x4 ∧ x4 ≤ 9223372036854775807) → (x4 ≠ 0 ∨ x3 = []) → u < 10 ^ (n + 1) → x3.length + n ≤ 900 →
    spec_l01Dec.l0 (k + 2 + 2 * (n + 1)) x0 x3 x4 = some (fin x0 (digs u ++ x3)) := by
  induction n with
  | zero =>
    intro k u x0 x3 x4 hu hx h3 hn hl
    have hs : u < 10 := by simpa using hn
    rw [show k + 2 + 2 * (0 + 1) = (k + 2) + 2 by omega, dec_step (k + 2) x0 x3 x4 u hu hx h3 (by omega)]
    have h0 : Int.tdiv x4 10 = 0 := by have := tdiv_abs x4; omega
    rw [h0, dec_end k x0 _ (by simp) (by simp only [List.length_cons]; omega), digs_small u hs, Nat.mod_eq_of_lt hs]
    rfl
  | succ n ih =>
    intro k u x0 x3 x4 hu hx h3 hn hl
    by_cases hs : u < 10
    · rw [show k + 2 + 2 * (n + 1 + 1) = (k + 2 * (n + 1)) + 2 + 2 by omega, dec_step _ x0 x3 x4 u hu hx h3 (by omega)]
      have h0 : Int.tdiv x4 10 = 0 := by have := tdiv_abs x4; omega
      rw [h0, dec_end _ x0 _ (by simp) (by simp only [List.length_cons]; omega), digs_small u hs, Nat.mod_eq_of_lt hs]
      rfl
    · rw [show k + 2 + 2 * (n + 1 + 1) = (k + 2 + 2 * (n + 1)) + 2 by omega, dec_step _ x0 x3 x4 u hu hx h3 (by omega)]
      have ha := tdiv_abs x4
      have hn' : u / 10 < 10 ^ (n + 1) := by rw [Nat.pow_succ] at hn; exact Nat.div_lt_of_lt_mul (by rw [Nat.mul_comm]; exact hn)
      clear hn
      rw [ih k (u / 10) x0 _ (Int.tdiv x4 10) (by rw [ha, hu]) (by clear hn'; omega) (Or.inl (by clear hn'; intro h; rw [h] at ha; simp at ha; omega)) hn' (by simp only [List.length_cons]; omega), digs_step u hs, List.append_assoc]
      rfl
/-- The reference's decimal text is the library's. -/
theorem dec_f (k : Nat) (hk : 44 ≤ k) (x : Int) (hx : -9223372036854775808 ≤ x ∧ x ≤ 9223372036854775807) : spec_l01Dec.f k x = some ⟨(Lib.itoa x).toArray⟩ := by
  unfold spec_l01Dec.f
  obtain ⟨d, rfl⟩ : ∃ d, k = d + 2 + 2 * (19 + 1) := ⟨k - 42, by omega⟩
  have hn : x.natAbs < 10 ^ (19 + 1) := by
    have h1 : x.natAbs ≤ 9223372036854775808 := by omega
    exact Nat.lt_of_le_of_lt h1 (by decide)
  rw [dec_loop 19 d x.natAbs x [] x rfl hx (Or.inr rfl) hn (by decide), List.append_nil]
  clear hn
  unfold fin Lib.itoa
  by_cases h : x < 0
  · rw [if_pos h, if_pos h, str_neg]
  · rw [if_neg h, if_neg h, str_digs]
    have : x.toNat = x.natAbs := by omega
    rw [this]

abbrev inR (x : Int) : Prop := -1000000000000000 ≤ x ∧ x ≤ 1000000000000000
/-- A number's decimal text. -/
def T (x : Int) : ByteArray := ⟨(Lib.itoa x).toArray⟩
theorem itoa_len (x : Int) (h : inR x) : (Lib.itoa x).length ≤ 20 := by
  have hd : ∀ u : Nat, u ≤ 1000000000000000 → (Lib.decDigits u).length ≤ 18 := by
    intro u hu
    have := digs_len 17 u (Nat.lt_of_le_of_lt hu (by decide))
    unfold digs at this
    simpa using this
  unfold inR at h
  unfold Lib.itoa
  by_cases hx : x < 0
  · rw [if_pos hx]; have := hd x.natAbs (by omega); simp only [List.length_cons]; omega
  · rw [if_neg hx]; have := hd x.toNat (by omega); omega
theorem T_size (x : Int) (h : inR x) : (T x).size ≤ 20 := by
  have := itoa_len x h
  show ((Lib.itoa x).toArray).size ≤ 20
  simpa using this
theorem T_dec (k : Nat) (hk : 44 ≤ k) (x : Int) (h : inR x) : spec_l01Dec.f k x = some (T x) := dec_f k hk x (by unfold inR at h; omega)
theorem T_impl (k : Nat) (x : Int) (h : inR x) : impl_Decimal.f k x = some (T x) := by
  unfold impl_Decimal.f strconv_FormatInt_20.f
  rw [if_pos ⟨rfl, by unfold inR at h; omega⟩]
  rfl
theorem in_f (x : Int) : spec_l00In.f x (-1000000000000000) 1000000000000000 = some (decide (inR x)) := by
  unfold spec_l00In.f inR
  by_cases h : x ≥ -1000000000000000
  · rw [if_pos h]; simp [show -1000000000000000 ≤ x from h]
  · rw [if_neg h]; simp; omega
theorem isValue_f (x : Int) : impl_isValue.f x = some (decide (inR x)) := by
  unfold impl_isValue.f impl_within.f inR
  by_cases h : x ≥ -1000000000000000
  · rw [if_pos h]; simp [show -1000000000000000 ≤ x from h]
  · rw [if_neg h]; simp; omega

theorem I64_wrap (x : Int) : -9223372036854775808 ≤ wrap64 x ∧ wrap64 x ≤ 9223372036854775807 := by unfold wrap64; omega
/-- What the digits of a text tell, other signs passed over. -/
def val : List UInt8 → Nat → Nat
  | [], n => n
  | b :: r, n => if 48 ≤ b.toNat ∧ b.toNat ≤ 57 then val r (10 * n + (b.toNat - 48)) else val r n
theorem val_ge (l : List UInt8) : ∀ n, n ≤ val l n := by
  induction l with
  | nil => intro n; exact Nat.le_refl _
  | cons b r ih =>
    intro n
    unfold val
    split
    · have := ih (10 * n + (b.toNat - 48)); omega
    · exact ih n
theorem val_app (l : List UInt8) (b : UInt8) : ∀ n, val (l ++ [b]) n = if 48 ≤ b.toNat ∧ b.toNat ≤ 57 then 10 * val l n + (b.toNat - 48) else val l n := by
  induction l with
  | nil => intro n; rfl
  | cons c r ih =>
    intro n
    rw [List.cons_append]
    unfold val
    split
    · exact ih _
    · exact ih _
theorem digit_of (d : Nat) (h : d < 10) : (UInt8.ofNat (48 + d)).toNat = 48 + d := by rw [UInt8.toNat_ofNat']; omega
theorem val_dec (n : Nat) : ∀ u, u ≤ n → val (Lib.decDigits u) 0 = u := by
  induction n with
  | zero =>
    intro u h
    have h0 : u = 0 := by omega
    subst h0
    rw [Lib.decDigits, dif_pos (by decide)]
    unfold val
    rw [digit_of 0 (by decide), if_pos ⟨by decide, by decide⟩]
    rfl
  | succ n ih =>
    intro u h
    by_cases hs : u < 10
    · rw [Lib.decDigits, dif_pos hs]
      unfold val
      rw [digit_of u hs, if_pos ⟨by omega, by omega⟩]
      unfold val; omega
    · rw [Lib.decDigits, dif_neg hs, val_app, digit_of (u % 10) (Nat.mod_lt _ (by decide)), ih (u / 10) (by omega), if_pos ⟨by omega, by omega⟩]
      omega
theorem dec_digit (n : Nat) : ∀ u, u ≤ n → ∀ b ∈ Lib.decDigits u, 48 ≤ b.toNat ∧ b.toNat ≤ 57 := by
  induction n with
  | zero =>
    intro u h b hb
    rw [Lib.decDigits, dif_pos (by omega)] at hb
    rw [List.mem_singleton.1 hb, digit_of u (by omega)]; omega
  | succ n ih =>
    intro u h b hb
    by_cases hs : u < 10
    · rw [Lib.decDigits, dif_pos hs] at hb
      rw [List.mem_singleton.1 hb, digit_of u hs]; omega
    · rw [Lib.decDigits, dif_neg hs] at hb
      rcases List.mem_append.1 hb with hb | hb
      · exact ih (u / 10) (by omega) b hb
      · rw [List.mem_singleton.1 hb, digit_of (u % 10) (Nat.mod_lt _ (by decide))]; omega
theorem dec_ne (u : Nat) : Lib.decDigits u ≠ [] := by
  intro h
  have := digs_ne u
  unfold digs at this
  rw [h] at this
  exact this rfl
theorem parseM (l : List UInt8) : ∀ acc, (∀ b ∈ l, 48 ≤ b.toNat ∧ b.toNat ≤ 57) → val l acc ≤ 1000000000000000 → Lib.parseUintM 18446744073709551615 acc l = .ok (val l acc) := by
  induction l with
  | nil => intro acc _ _; rfl
  | cons b r ih =>
    intro acc hd hv
    have hb := hd b List.mem_cons_self
    have e : val (b :: r) acc = val r (10 * acc + (b.toNat - 48)) := by
      conv => lhs; unfold val
      rw [if_pos hb]
    rw [e] at hv ⊢
    have hg := val_ge r (10 * acc + (b.toNat - 48))
    unfold Lib.parseUintM
    rw [if_pos hb, if_neg (by omega), if_neg (by omega), Nat.mul_comm acc 10]
    exact ih _ (fun c hc => hd c (List.mem_cons_of_mem _ hc)) hv
theorem parseU (u : Nat) (h : u ≤ 1000000000000000) : Lib.parseUintB 64 (Lib.decDigits u) = .ok u := by
  unfold Lib.parseUintB
  rw [if_neg (dec_ne u)]
  have := parseM (Lib.decDigits u) 0 (dec_digit u u (Nat.le_refl _)) (by rw [val_dec u u (Nat.le_refl _)]; exact h)
  rw [val_dec u u (Nat.le_refl _)] at this
  exact this
theorem signless_ok (v : Int) (h0 : 0 ≤ v) (h : v ≤ 1000000000000000) : Lib.signlessC (2 ^ (64 - 1)) (.ok v.toNat) = .ok v := by
  have hp : (2 : Nat) ^ (64 - 1) = 9223372036854775808 := rfl
  unfold Lib.signlessC
  simp only [hp]
  rw [if_neg (by omega), Int.toNat_of_nonneg h0]
theorem parse_T (v : Int) (h : inR v) : Lib.parseIntB 64 (Lib.itoa v) = .ok v := by
  unfold inR at h
  unfold Lib.itoa
  by_cases hv : v < 0
  · rw [if_pos hv]
    unfold Lib.parseIntB
    simp only [show (45 : UInt8).toNat = 45 from rfl, or_true, if_true, true_and, not_true, false_and, if_false]
    rw [parseU v.natAbs (by omega)]
    simp only
    rw [if_neg (by omega)]
    congr 1; omega
  · rw [if_neg hv]
    obtain ⟨c, r, e⟩ : ∃ c r, Lib.decDigits v.toNat = c :: r := by
      cases hd : Lib.decDigits v.toNat with
      | nil => exact absurd hd (dec_ne _)
      | cons c r => exact ⟨c, r, rfl⟩
    have hc := dec_digit v.toNat v.toNat (Nat.le_refl _) c (by rw [e]; exact List.mem_cons_self)
    have hp := parseU v.toNat (by omega)
    rw [e] at hp ⊢
    rw [Lib.parseIntB_plain 64 c r (by omega) (by omega), hp]
    exact signless_ok v (by omega) h.2
theorem bt_get (s : ByteArray) (i : Int) (b : UInt8) (r : List UInt8) (h : s.data.toList.drop i.toNat = b :: r) : bt s i = (b.toNat : Int) ∧ i.toNat < s.size := by
  have hl : i.toNat < s.data.toList.length := by
    rcases Nat.lt_or_ge i.toNat s.data.toList.length with h' | h'
    · exact h'
    · rw [List.drop_eq_nil_of_le h'] at h; cases h
  have hs : i.toNat < s.size := by rw [Lib.size_eq]; exact hl
  refine ⟨?_, hs⟩
  rw [List.drop_eq_getElem_cons hl] at h
  injection h with h1 h2
  unfold bt
  rw [dif_pos hs, ← h1]
  rfl
/-- The end of the reference's rounds. -/
def tail (m : Nat) (s : ByteArray) (x : Int) : Option (Int × Bool) := if 0 < (s.size : Int) then (if (bt s 0) = 45 then (spec_l01Value.j2 m s (wrap64 (-x))) else (spec_l01Value.j2 m s x)) else (none)
theorem l0_end (m : Nat) (s : ByteArray) (x i : Int) (h : ¬ i < (s.size : Int)) : spec_l01Value.l0 (m + 1) s x i = tail m s x := by
  simp only [spec_l01Value.l0]
  rw [if_neg h]; rfl
theorem step_val (n z : Nat) (h1 : 48 ≤ z) (h2 : z ≤ 57) (h : 10 * n + (z - 48) ≤ 1000000000000000) : wrap64 (wrap64 (10 * (n : Int)) + ((z : Int) - 48) % 256) = ((10 * n + (z - 48) : Nat) : Int) := by
  have e1 : ((z : Int) - 48) % 256 = (z : Int) - 48 := by omega
  have e2 : wrap64 (10 * (n : Int)) = 10 * (n : Int) := by unfold wrap64; omega
  have e3 : wrap64 (10 * (n : Int) + ((z : Int) - 48)) = 10 * (n : Int) + ((z : Int) - 48) := by unfold wrap64; omega
  rw [e1, e2, e3]
  omega
/-- The digits' value, where it is small. -/
theorem value_loop (s : ByteArray) (hs : s.size ≤ 1000) (u : Nat) (hu : u ≤ 1000000000000000) (m : Nat) (d : Nat) : ∀ (i : Int) (n : Nat), 0 ≤ i → (s.size : Int) - i = d → val (s.data.toList.drop i.toNat) n = u →
    spec_l01Value.l0 (m + d + 1) s (n : Int) i = tail m s (u : Int) := by
  induction d with
  | zero =>
    intro i n h0 hd hv
    rw [List.drop_eq_nil_of_le (by rw [← Lib.size_eq]; omega)] at hv
    rw [show m + 0 + 1 = m + 1 from rfl, l0_end m s _ i (by omega), ← hv]
    rfl
  | succ d ih =>
    intro i n h0 hd hv
    have hl : i.toNat < s.data.toList.length := by rw [← Lib.size_eq]; omega
    have e := List.drop_eq_getElem_cons hl
    obtain ⟨hb, _⟩ := bt_get s i _ _ e
    generalize s.data.toList[i.toNat] = b at hb e
    have e1 : (i + 1).toNat = i.toNat + 1 := by omega
    rw [e, ← e1] at hv
    have hw : wrap64 (i + 1) = i + 1 := by unfold wrap64; omega
    rw [show m + (d + 1) + 1 = (m + d + 1) + 1 by omega]
    simp only [spec_l01Value.l0]
    rw [if_pos (by omega), if_pos h0, hb, hw]
    unfold val at hv
    by_cases hd1 : 48 ≤ b.toNat
    · rw [if_pos (by omega)]
      by_cases hd2 : b.toNat ≤ 57
      · rw [if_pos (by omega)]
        rw [if_pos ⟨hd1, hd2⟩] at hv
        have hg := val_ge (s.data.toList.drop (i + 1).toNat) (10 * n + (b.toNat - 48))
        have ew : wrap64 (wrap64 (10 * (n : Int)) + ((b.toNat : Int) - 48) % 256) = ((10 * n + (b.toNat - 48) : Nat) : Int) := step_val n b.toNat hd1 hd2 (by rw [hv] at hg; omega)
        rw [ew]
        exact ih (i + 1) _ (by omega) (by omega) hv
      · rw [if_neg (by omega)]
        rw [if_neg (by omega)] at hv
        exact ih (i + 1) n (by omega) (by omega) hv
    · rw [if_neg (by omega)]
      rw [if_neg (by omega)] at hv
      exact ih (i + 1) n (by omega) (by omega) hv
/-- Some value, whatever the text. -/
theorem some_loop (s : ByteArray) (hs : s.size ≤ 1000) (m : Nat) (d : Nat) : ∀ (i n : Int), 0 ≤ i → (s.size : Int) - i = d → (-9223372036854775808 ≤ n ∧ n ≤ 9223372036854775807) →
    ∃ x, (-9223372036854775808 ≤ x ∧ x ≤ 9223372036854775807) ∧ spec_l01Value.l0 (m + d + 1) s n i = tail m s x := by
  induction d with
  | zero =>
    intro i n h0 hd hn
    exact ⟨n, hn, by rw [show m + 0 + 1 = m + 1 from rfl, l0_end m s _ i (by omega)]⟩
  | succ d ih =>
    intro i n h0 hd hn
    have hw : wrap64 (i + 1) = i + 1 := by unfold wrap64; omega
    rw [show m + (d + 1) + 1 = (m + d + 1) + 1 by omega]
    simp only [spec_l01Value.l0]
    rw [if_pos (by omega), if_pos h0, hw]
    by_cases h1 : bt s i ≥ 48
    · rw [if_pos h1]
      by_cases h2 : bt s i ≤ 57
      · rw [if_pos h2]; exact ih (i + 1) _ (by omega) (by omega) (I64_wrap _)
      · rw [if_neg h2]; exact ih (i + 1) n (by omega) (by omega) hn
    · rw [if_neg h1]; exact ih (i + 1) n (by omega) (by omega) hn
theorem j2_f (m : Nat) (hm : 44 ≤ m) (s : ByteArray) (x : Int) (hx : -9223372036854775808 ≤ x ∧ x ≤ 9223372036854775807) :
    spec_l01Value.j2 (m + 1) s x = some (if inR x ∧ (T x).toList = s.toList then (x, true) else (0, false)) := by
  simp only [spec_l01Value.j2]
  rw [in_f]
  simp only [Option.bind_some]
  by_cases h : inR x
  · rw [decide_eq_true h, if_pos rfl, T_dec m hm x h]
    simp only [Option.bind_some]
    by_cases e : (T x).toList = s.toList
    · rw [if_pos e, if_pos ⟨h, e⟩]
    · rw [if_neg e, if_neg (fun q => e q.2)]
  · rw [decide_eq_false h, if_neg (by decide), if_neg (fun q => h q.1)]
theorem str_eq {a b : ByteArray} (h : a.toList = b.toList) : a = b := by
  rw [ByteArray.toList_eq, ByteArray.toList_eq] at h
  exact Go.WideShapes.bytes_inj h
theorem T_len (v : Int) (h : inR v) : 1 ≤ (T v).size ∧ (T v).size ≤ 17 := by
  have hd : ∀ u : Nat, u ≤ 1000000000000000 → (Lib.decDigits u).length ≤ 16 := by
    intro u hu
    have := digs_len 15 u (Nat.lt_of_le_of_lt hu (by decide))
    unfold digs at this
    simpa using this
  have he : (T v).size = (Lib.itoa v).length := by
    show ((Lib.itoa v).toArray).size = _
    simp
  unfold inR at h
  rw [he]
  unfold Lib.itoa
  by_cases hx : v < 0
  · rw [if_pos hx]; have := hd v.natAbs (by omega); simp only [List.length_cons]; omega
  · rw [if_neg hx]
    have := hd v.toNat (by omega)
    have h1 : (Lib.decDigits v.toNat).length ≠ 0 := fun e => dec_ne _ (List.eq_nil_of_length_eq_zero e)
    omega
/-- What both answer. -/
def answer (s : ByteArray) (r : Int × Bool) : Prop := (∃ v, inR v ∧ T v = s ∧ r = (v, true)) ∨ ((¬ ∃ v, inR v ∧ T v = s) ∧ r = (0, false))
theorem spec_answer (s : ByteArray) (k : Nat) (hk : 100 ≤ k) : ∃ r, spec_l01Value.f k s = some r ∧ answer s r := by
  obtain ⟨k, rfl⟩ : ∃ m, k = m + 1 := ⟨k - 1, by omega⟩
  have hj0 : spec_l01Value.f (k + 1) s = if s.size < 1 ∨ 17 < s.size then some (0, false) else spec_l01Value.l0 k s 0 0 := by
    unfold spec_l01Value.f
    by_cases h1 : (s.size : Int) < 1
    · rw [if_pos h1]; simp only [spec_l01Value.j0]; rw [if_pos trivial, if_pos (by omega)]
    · rw [if_neg h1]
      by_cases h2 : (s.size : Int) > 17
      · rw [decide_eq_true h2]; simp only [spec_l01Value.j0]; rw [if_pos trivial, if_pos (by omega)]
      · rw [decide_eq_false h2]; simp only [spec_l01Value.j0]; rw [if_neg (by decide), if_neg (by omega)]
  rw [hj0]
  by_cases ex : ∃ v, inR v ∧ T v = s
  · obtain ⟨v, hv, rfl⟩ := ex
    have hl := T_len v hv
    refine ⟨(v, true), ?_, Or.inl ⟨v, hv, rfl, rfl⟩⟩
    rw [if_neg (by omega)]
    obtain ⟨m, hm, hk'⟩ : ∃ m, 44 ≤ m ∧ k = (m + 1) + (T v).size + 1 := ⟨k - (T v).size - 2, by omega, by omega⟩
    have hval : val ((T v).data.toList.drop (0 : Int).toNat) 0 = v.natAbs := by
      have e : (T v).data.toList = Lib.itoa v := by simp [T]
      rw [e]
      simp only [Int.toNat_zero, List.drop_zero]
      unfold Lib.itoa
      by_cases h : v < 0
      · rw [if_pos h]
        unfold val
        rw [if_neg (by decide)]
        exact val_dec _ _ (Nat.le_refl _)
      · rw [if_neg h, val_dec _ _ (Nat.le_refl _)]; omega
    have := value_loop (T v) (by omega) v.natAbs (by unfold inR at hv; omega) (m + 1) (T v).size 0 0 (by decide) (by omega) hval
    rw [hk', show ((0 : Nat) : Int) = 0 from rfl] at *
    rw [this]
    unfold tail
    rw [if_pos (by omega)]
    have e : (T v).data.toList.drop (0 : Int).toNat = Lib.itoa v := by simp [T]
    by_cases h : v < 0
    · have hb : bt (T v) 0 = 45 := by
        have e' : (T v).data.toList.drop (0 : Int).toNat = 45 :: Lib.decDigits v.natAbs := by rw [e]; unfold Lib.itoa; rw [if_pos h]
        have := (bt_get (T v) 0 _ _ e').1
        rw [this]; rfl
      have ew : wrap64 (-(v.natAbs : Int)) = v := by unfold inR at hv; unfold wrap64; omega
      rw [if_pos hb, ew, j2_f m hm _ v (by unfold inR at hv; omega), if_pos ⟨hv, rfl⟩]
    · have hb : ¬ bt (T v) 0 = 45 := by
        obtain ⟨c, r, ec⟩ : ∃ c r, Lib.decDigits v.toNat = c :: r := by
          cases hd : Lib.decDigits v.toNat with
          | nil => exact absurd hd (dec_ne _)
          | cons c r => exact ⟨c, r, rfl⟩
        have hc := dec_digit v.toNat v.toNat (Nat.le_refl _) c (by rw [ec]; exact List.mem_cons_self)
        have e' : (T v).data.toList.drop (0 : Int).toNat = c :: r := by rw [e]; unfold Lib.itoa; rw [if_neg h, ec]
        have := (bt_get (T v) 0 _ _ e').1
        rw [this]; omega
      have ew : (v.natAbs : Int) = v := by omega
      rw [if_neg hb, ew, j2_f m hm _ v (by unfold inR at hv; omega), if_pos ⟨hv, rfl⟩]
  · refine ⟨(0, false), ?_, Or.inr ⟨ex, rfl⟩⟩
    by_cases hsz : s.size < 1 ∨ 17 < s.size
    · rw [if_pos hsz]
    · rw [if_neg hsz]
      obtain ⟨m, hm, hk'⟩ : ∃ m, 44 ≤ m ∧ k = (m + 1) + s.size + 1 := ⟨k - s.size - 2, by omega, by omega⟩
      obtain ⟨x, hx, e⟩ := some_loop s (by omega) (m + 1) s.size 0 0 (by decide) (by omega) (by decide)
      rw [hk', e]
      have no : ∀ y, ¬ (inR y ∧ (T y).toList = s.toList) := fun y q => ex ⟨y, q.1, str_eq q.2⟩
      unfold tail
      rw [if_pos (by omega)]
      by_cases hb : bt s 0 = 45
      · rw [if_pos hb, j2_f m hm _ _ (I64_wrap _), if_neg (no _)]
      · rw [if_neg hb, j2_f m hm _ _ hx, if_neg (no _)]
theorem impl_answer (s : ByteArray) (hs : s.size ≤ 281474976710656) (k : Nat) : ∃ r, impl_ReadDecimal.f k s = some r ∧ answer s r := by
  unfold impl_ReadDecimal.f strconv_ParseInt_26.f
  rw [if_pos ⟨rfl, rfl, hs⟩]
  simp only [Option.bind_some]
  have hpv : (∃ v, Lib.parseIntB 64 s.data.toList = .ok v ∧ Go.Proofs.YtdklgllbemiicaaDoor.Tb.parseV s = (v, false)) ∨ ((¬ ∃ v, Lib.parseIntB 64 s.data.toList = .ok v) ∧ ∃ y, Go.Proofs.YtdklgllbemiicaaDoor.Tb.parseV s = (y, true)) := by
    unfold Go.Proofs.YtdklgllbemiicaaDoor.Tb.parseV
    cases hp : Lib.parseIntB 64 s.data.toList with
    | ok v => exact Or.inl ⟨v, rfl, rfl⟩
    | «syntax» => exact Or.inr ⟨(fun ⟨v, h⟩ => by cases h), ⟨_, rfl⟩⟩
    | range => exact Or.inr ⟨(fun ⟨v, h⟩ => by cases h), ⟨_, rfl⟩⟩
  rcases hpv with ⟨v, hp, e⟩ | ⟨hp, y, e⟩
  · rw [e]
    simp only [if_neg (show ¬ (false = true) by decide)]
    rw [isValue_f]
    simp only [Option.bind_some]
    by_cases hv : inR v
    · rw [decide_eq_true hv, if_pos rfl, T_impl k v hv]
      simp only [Option.bind_some]
      by_cases ht : (T v).toList = s.toList
      · rw [if_pos ht]; exact ⟨_, rfl, Or.inl ⟨v, hv, str_eq ht, rfl⟩⟩
      · rw [if_neg ht]
        refine ⟨_, rfl, Or.inr ⟨fun ⟨z, hz, ez⟩ => ?_, rfl⟩⟩
        have h1 : s.data.toList = Lib.itoa z := by rw [← ez]; simp [T]
        rw [h1, parse_T z hz] at hp
        injection hp with hp
        subst hp
        exact ht (by rw [ez])
    · rw [decide_eq_false hv, if_neg (by decide)]
      refine ⟨_, rfl, Or.inr ⟨fun ⟨z, hz, ez⟩ => ?_, rfl⟩⟩
      have h1 : s.data.toList = Lib.itoa z := by rw [← ez]; simp [T]
      rw [h1, parse_T z hz] at hp
      injection hp with hp
      subst hp
      exact hv hz
  · rw [e]
    simp only [if_true]
    refine ⟨_, rfl, Or.inr ⟨fun ⟨z, hz, ez⟩ => hp ⟨z, ?_⟩, rfl⟩⟩
    have h1 : s.data.toList = Lib.itoa z := by rw [← ez]; simp [T]
    rw [h1, parse_T z hz]
theorem T_inj (a b : Int) (ha : inR a) (hb : inR b) (h : T a = T b) : a = b := by
  have h1 : Lib.itoa a = Lib.itoa b := by
    have := congrArg (fun s => s.data.toList) h
    simpa [T] using this
  have h2 := parse_T a ha
  rw [h1, parse_T b hb] at h2
  injection h2 with h2
  exact h2.symm
theorem answer_one {s : ByteArray} {r q : Int × Bool} (h : answer s r) (g : answer s q) : r = q := by
  rcases h with ⟨v, hv, e, rfl⟩ | ⟨n, rfl⟩
  · rcases g with ⟨z, hz, e', rfl⟩ | ⟨n, _⟩
    · rw [T_inj v z hv hz (e.trans e'.symm)]
    · exact absurd ⟨v, hv, e⟩ n
  · rcases g with ⟨z, hz, e', _⟩ | ⟨_, rfl⟩
    · exact absurd ⟨z, hz, e'⟩ n
    · rfl
theorem value_both (s : ByteArray) (hs : s.size ≤ 281474976710656) (k : Nat) (hk : 100 ≤ k) : ∃ r, spec_l01Value.f k s = some r ∧ impl_ReadDecimal.f k s = some r ∧ answer s r := by
  obtain ⟨r, h1, h2⟩ := spec_answer s k hk
  obtain ⟨q, h3, h4⟩ := impl_answer s hs k
  have e := answer_one h2 h4
  subst e
  exact ⟨r, h1, h3, h2⟩

/-- A text cut at a byte; p is the piece that is being built. -/
def cutL (c : UInt8) : List UInt8 → List UInt8 → List (List UInt8)
  | p, [] => [p]
  | p, b :: l => if b = c then p :: cutL c [] l else cutL c (p ++ [b]) l
theorem splitK_ne (c : UInt8) (k : Nat) (l : List UInt8) : ∃ x r, Lib.splitK [c] 0 k l = x :: r := by
  cases k with
  | zero => exact ⟨_, _, rfl⟩
  | succ k =>
    unfold Lib.splitK
    split
    · exact ⟨_, _, rfl⟩
    · exact ⟨_, _, rfl⟩
theorem splitK_skip (c b : UInt8) (h : b ≠ c) (k : Nat) (l : List UInt8) (x : List UInt8) (r : List (List UInt8)) (e : Lib.splitK [c] 0 k l = x :: r) : Lib.splitK [c] 0 k (b :: l) = (b :: x) :: r := by
  cases k with
  | zero =>
    have e' : [l] = x :: r := e
    injection e' with e1 e2
    subst e1; subst e2
    rfl
  | succ k =>
    have hp : ([c] : List UInt8).isPrefixOf (b :: l) = false := by simp [List.isPrefixOf, Ne.symm h]
    have hix : Lib.index (b :: l) [c] = if Lib.index l [c] == -1 then -1 else Lib.index l [c] + 1 := by rw [Lib.index, hp]; simp
    by_cases hm : Lib.index l [c] = -1
    · rw [Lib.splitK, if_pos (beq_iff_eq.2 hm)] at e
      rw [Lib.splitK, if_pos (beq_iff_eq.2 (by rw [hix, if_pos (beq_iff_eq.2 hm)]))]
      injection e with e1 e2
      subst e1; subst e2
      rfl
    · have hge := Lib.index_ge l [c]
      obtain ⟨j, hj⟩ : ∃ j : Nat, Lib.index l [c] = j := ⟨(Lib.index l [c]).toNat, by omega⟩
      have hix' : Lib.index (b :: l) [c] = ((j + 1 : Nat) : Int) := by rw [hix, if_neg (fun e => hm (beq_iff_eq.1 e)), hj]; omega
      rw [Lib.splitK, if_neg (fun q => hm (beq_iff_eq.1 q)), hj] at e
      rw [Lib.splitK, if_neg (fun q => by have := beq_iff_eq.1 q; rw [hix'] at this; omega), hix']
      simp only [Int.toNat_natCast, Nat.add_zero, List.length_singleton, List.take_succ_cons] at e ⊢
      injection e with e1 e2
      rw [e1, show j + 1 + 1 = (j + 1) + 1 from rfl, List.drop_succ_cons, e2]
theorem cutL_split (c : UInt8) (l : List UInt8) : ∀ p : List UInt8, ∀ x r, Lib.splitK [c] 0 (Lib.count l [c]) l = x :: r → cutL c p l = (p ++ x) :: r := by
  induction l with
  | nil =>
    intro p x r e
    have e0 : Lib.count [] [c] = 0 := by rw [Lib.count_one]; rfl
    rw [e0] at e
    have e' : [([] : List UInt8)] = x :: r := e
    injection e' with e1 e2
    subst e1; subst e2
    simp [cutL]
  | cons b l ih =>
    intro p x r e
    by_cases h : b = c
    · subst h
      rw [Lib.count_cons_eq, Nat.add_comm, Lib.splitK] at e
      have hix : Lib.index (b :: l) [b] = 0 := by rw [Lib.index]; simp [List.isPrefixOf]
      rw [if_neg (by rw [hix]; decide), hix] at e
      simp only [Int.toNat_zero, Nat.add_zero, List.length_singleton, List.take_zero, Nat.zero_add, List.drop_succ_cons, List.drop_zero] at e
      injection e with e1 e2
      subst e1
      obtain ⟨y, t, ey⟩ := splitK_ne b (Lib.count l [b]) l
      have := ih [] y t ey
      unfold cutL
      rw [if_pos rfl, this, List.append_nil, List.nil_append, ← ey, e2]
    · rw [Lib.count_cons_ne b c l h] at e
      obtain ⟨y, t, ey⟩ := splitK_ne c (Lib.count l [c]) l
      rw [splitK_skip c b h _ l y t ey] at e
      injection e with e1 e2
      subst e1; subst e2
      unfold cutL
      rw [if_neg h, ih (p ++ [b]) y t ey, List.append_assoc]
      rfl
theorem cutL_len (c : UInt8) (l : List UInt8) : ∀ p, (cutL c p l).length ≤ l.length + 1 := by
  induction l with
  | nil => intro p; simp [cutL]
  | cons b l ih =>
    intro p
    unfold cutL
    split
    · have := ih []; simp only [List.length_cons]; omega
    · have := ih (p ++ [b]); simp only [List.length_cons]; omega
theorem cutL_piece (c : UInt8) (l : List UInt8) : ∀ p, ∀ x ∈ cutL c p l, x.length ≤ p.length + l.length := by
  induction l with
  | nil => intro p x hx; simp [cutL] at hx; subst hx; omega
  | cons b l ih =>
    intro p x hx
    unfold cutL at hx
    split at hx
    · rcases List.mem_cons.1 hx with rfl | hx
      · omega
      · have := ih [] x hx; simp only [List.length_cons, List.length_nil] at *; omega
    · have := ih (p ++ [b]) x hx; simp only [List.length_cons, List.length_append, List.length_nil] at *; omega
/-- The pieces of a text. -/
def pcs (s : ByteArray) : List ByteArray := (cutL 44 [] s.data.toList).map fun l => ⟨l.toArray⟩
theorem pcs_len (s : ByteArray) : (pcs s).length ≤ s.size + 1 := by
  unfold pcs
  rw [List.length_map, Lib.size_eq]
  exact cutL_len _ _ _
theorem pcs_size (s : ByteArray) : ∀ x ∈ pcs s, x.size ≤ s.size := by
  intro x hx
  obtain ⟨l, hl, rfl⟩ := List.mem_map.1 hx
  have := cutL_piece 44 s.data.toList [] l hl
  rw [Lib.size_eq, Lib.size_eq]
  simpa using this
theorem back (l : List ByteArray) : (l.map (·.data.toList)).map (fun x => (⟨x.toArray⟩ : ByteArray)) = l := by
  rw [List.map_map]
  conv => rhs; rw [← List.map_id l]
  apply List.map_congr_left
  intro x _
  simp
theorem pcs_split (s : ByteArray) : Lib.splitB ⟨#[44]⟩ 0 (Lib.countB s ⟨#[44]⟩) s = pcs s := by
  have e := Lib.splitB_data ⟨#[44]⟩ 0 (Lib.countB s ⟨#[44]⟩) s
  obtain ⟨x, r, ex⟩ := splitK_ne 44 (Lib.count s.data.toList [44]) s.data.toList
  have h := cutL_split 44 s.data.toList [] x r ex
  have e2 : Lib.splitK [44] 0 (Lib.count s.data.toList [44]) s.data.toList = cutL 44 [] s.data.toList := by rw [h, ex]; rfl
  have e3 : (Lib.splitB ⟨#[44]⟩ 0 (Lib.countB s ⟨#[44]⟩) s).map (·.data.toList) = cutL 44 [] s.data.toList := e.trans e2
  rw [← back (Lib.splitB ⟨#[44]⟩ 0 (Lib.countB s ⟨#[44]⟩) s), e3]
  rfl
theorem take_more (l : List UInt8) (f i : Nat) (b : UInt8) (r : List UInt8) (hf : f ≤ i) (e : l.drop i = b :: r) : (l.drop f).take (i + 1 - f) = (l.drop f).take (i - f) ++ [b] := by
  have hl : i < l.length := by
    rcases Nat.lt_or_ge i l.length with h' | h'
    · exact h'
    · rw [List.drop_eq_nil_of_le h'] at e; cases e
  rw [List.drop_eq_getElem_cons hl] at e
  injection e with e1 _
  rw [show i + 1 - f = (i - f) + 1 by omega, List.take_succ_eq_append_getElem (by rw [List.length_drop]; omega)]
  congr 2
  rw [List.getElem_drop, ← e1]
  congr 1; omega
theorem ext_mk (s : ByteArray) (f i : Nat) : s.extract f i = ⟨((s.data.toList.drop f).take (i - f)).toArray⟩ := by
  apply str_eq
  rw [Lib.toList_data, Lib.toList_data, Lib.extract_data]
theorem wrap_nat (i n : Nat) (h : i ≤ n) (hn : n ≤ 140737488351232) : wrap64 ((i : Int) + 1) = ((i + 1 : Nat) : Int) := by unfold wrap64; omega
theorem cut_loop (s : ByteArray) (hs : s.size ≤ 1048576) (d : Nat) : ∀ (k i f : Nat) (out : List ByteArray), f ≤ i → i + d = s.size → out.length + d ≤ 1048576 → d + 2 ≤ k →
    spec_l01Cut.l0 k s 44 out (f : Int) (i : Int) = some (out ++ (cutL 44 ((s.data.toList.drop f).take (i - f)) (s.data.toList.drop i)).map fun l => (⟨l.toArray⟩ : ByteArray)) := by
  induction d with
  | zero =>
    intro k i f out hf hi ho hk
    obtain ⟨k, rfl⟩ : ∃ m, k = m + 2 := ⟨k - 2, by omega⟩
    have e1 : (i : Int) = (s.size : Int) := by omega
    have e0 : (i : Int) ≤ (s.size : Int) := by omega
    have e2 : (0 : Int) ≤ (f : Int) := by omega
    have e3 : (f : Int) ≤ (i : Int) := by omega
    have e4 : out.length < 8796093022208 := by omega
    have e5 : ¬ ((i + 1 : Nat) : Int) ≤ (s.size : Int) := by omega
    simp only [spec_l01Cut.l0]
    rw [if_pos e0, if_pos e1, if_pos e2, if_pos e3, if_pos e4, wrap_nat i s.size (by omega) (by omega), if_neg e5, Int.toNat_natCast, Int.toNat_natCast, ext_mk, List.drop_eq_nil_of_le (show s.data.toList.length ≤ i by rw [← Lib.size_eq]; omega)]
    rfl
  | succ d ih =>
    intro k i f out hf hi ho hk
    obtain ⟨k, rfl⟩ : ∃ m, k = m + 1 := ⟨k - 1, by omega⟩
    have hl : i < s.data.toList.length := by rw [← Lib.size_eq]; omega
    have e := List.drop_eq_getElem_cons hl
    obtain ⟨hb, _⟩ := bt_get s (i : Int) _ _ (by rw [Int.toNat_natCast]; exact e)
    generalize s.data.toList[i] = b at hb e
    have e1 : ¬ (i : Int) = (s.size : Int) := by omega
    have e0 : (i : Int) ≤ (s.size : Int) := by omega
    have e00 : (0 : Int) ≤ (i : Int) := by omega
    have e01 : (i : Int) < (s.size : Int) := by omega
    have e2 : (0 : Int) ≤ (f : Int) := by omega
    have e3 : (f : Int) ≤ (i : Int) := by omega
    have e4 : out.length < 8796093022208 := by omega
    simp only [spec_l01Cut.l0]
    rw [if_pos e0, if_neg e1, if_pos e00, if_pos e01, hb, wrap_nat i s.size (by omega) (by omega), e]
    by_cases h : b = 44
    · subst h
      rw [if_pos (by decide), if_pos e2, if_pos e3, if_pos e4, Int.toNat_natCast, Int.toNat_natCast, ext_mk]
      rw [ih k (i + 1) (i + 1) _ (Nat.le_refl _) (by omega) (by rw [List.length_append, List.length_singleton]; omega) (by omega)]
      rw [Nat.sub_self, List.take_zero]
      conv => rhs; unfold cutL
      rw [if_pos rfl, List.map_cons, List.append_assoc]
      rfl
    · rw [if_neg (fun q => h (UInt8.toNat_inj.1 (by have : b.toNat = 44 := by omega
                                                    exact this)))]
      rw [ih k (i + 1) f out (by omega) (by omega) (by omega) (by omega), take_more _ f i b _ hf e]
      conv => rhs; unfold cutL
      rw [if_neg h]
theorem cut_f (s : ByteArray) (hs : s.size ≤ 1048576) (k : Nat) (hk : s.size + 2 ≤ k) : spec_l01Cut.f k s 44 = some (pcs s) := by
  unfold spec_l01Cut.f
  have := cut_loop s hs s.size k 0 0 [] (Nat.le_refl _) (by omega) (by simp; omega) hk
  simpa [pcs] using this
theorem split_f (s : ByteArray) (hs : s.size ≤ 1048576) (k : Nat) : strings_Split.f k s ⟨#[44]⟩ = some (pcs s) := by
  unfold strings_Split.f
  rw [if_pos ⟨by omega, by decide⟩, pcs_split]
/-- What both answer for a piece. -/
def av (s : ByteArray) : Int × Bool := (spec_l01Value.f 100 s).getD (0, false)
theorem av_both (s : ByteArray) (hs : s.size ≤ 281474976710656) (k : Nat) (hk : 100 ≤ k) : spec_l01Value.f k s = some (av s) ∧ impl_ReadDecimal.f k s = some (av s) := by
  obtain ⟨r, h1, h2, h3⟩ := value_both s hs k hk
  obtain ⟨q, h4, _, h6⟩ := value_both s hs 100 (Nat.le_refl _)
  have e := answer_one h3 h6
  subst e
  have : av s = r := by unfold av; rw [h4]; rfl
  rw [this]
  exact ⟨h1, h2⟩
/-- The numbers of pieces. -/
def rdL : List ByteArray → List Int → List Int × Bool
  | [], out => (out, true)
  | p :: r, out => if (av p).2 = true then rdL r (out ++ [(av p).1]) else ([], false)
theorem rdL_true (P : List ByteArray) : ∀ out, (rdL P out).2 = true → (rdL P out).1.length = out.length + P.length := by
  induction P with
  | nil => intro out _; rfl
  | cons p r ih =>
    intro out h
    unfold rdL at h ⊢
    by_cases c : (av p).2 = true
    · rw [if_pos c] at h ⊢
      rw [ih _ h, List.length_append, List.length_singleton, List.length_cons]; omega
    · rw [if_neg c] at h; cases h
theorem rdL_false (P : List ByteArray) : ∀ out, (rdL P out).2 = false → rdL P out = ([], false) := by
  induction P with
  | nil => intro out h; cases h
  | cons p r ih =>
    intro out h
    unfold rdL at h ⊢
    by_cases c : (av p).2 = true
    · rw [if_pos c] at h ⊢; exact ih _ h
    · rw [if_neg c]
theorem rdOf_get (P : List ByteArray) (i : Nat) (x : ByteArray) (r : List ByteArray) (e : P.drop i = x :: r) : rdOf ByteArray.empty P (i : Int) = x ∧ P.drop (i + 1) = r ∧ i < P.length := by
  have hl : i < P.length := by
    rcases Nat.lt_or_ge i P.length with h' | h'
    · exact h'
    · rw [List.drop_eq_nil_of_le h'] at e; cases e
  rw [List.drop_eq_getElem_cons hl] at e
  injection e with e1 e2
  refine ⟨?_, e2, hl⟩
  unfold rdOf
  rw [Int.toNat_natCast, List.getD_eq_getElem?_getD, List.getElem?_eq_getElem hl, e1]
  rfl
theorem spec_list (P : List ByteArray) (hP : ∀ x ∈ P, x.size ≤ 281474976710656) (hn : P.length ≤ 1048577) (d : Nat) : ∀ (k i : Nat) (out : List Int), i + d = P.length → out.length + d ≤ 1048577 → d + 101 ≤ k →
    spec_l01Numbers.l0 k out P (i : Int) = some (rdL (P.drop i) out) := by
  induction d with
  | zero =>
    intro k i out hi ho hk
    obtain ⟨k, rfl⟩ : ∃ m, k = m + 1 := ⟨k - 1, by omega⟩
    have e1 : ¬ (i : Int) < (P.length : Int) := by omega
    simp only [spec_l01Numbers.l0]
    rw [if_neg e1, List.drop_eq_nil_of_le (by omega)]
    rfl
  | succ d ih =>
    intro k i out hi ho hk
    obtain ⟨k, rfl⟩ : ∃ m, k = m + 1 := ⟨k - 1, by omega⟩
    have hl : i < P.length := by omega
    have e := List.drop_eq_getElem_cons hl
    obtain ⟨hr, _, _⟩ := rdOf_get P i _ _ e
    have hx := hP P[i] (List.getElem_mem hl)
    generalize P[i] = x at hr e hx
    have e1 : (i : Int) < (P.length : Int) := by omega
    have e2 : (0 : Int) ≤ (i : Int) := by omega
    have e3 : out.length < 17592186044416 := by omega
    simp only [spec_l01Numbers.l0]
    rw [if_pos e1, if_pos e2, hr, (av_both x hx k (by omega)).1, wrap_nat i P.length (by omega) (by omega), e]
    simp only [Option.bind_some]
    unfold rdL
    by_cases c : (av x).2 = true
    · rw [if_pos c, if_pos c, if_pos e3]
      exact ih k (i + 1) _ (by omega) (by rw [List.length_append, List.length_singleton]; omega) (by omega)
    · rw [if_neg c, if_neg c]
theorem impl_list (P : List ByteArray) (hP : ∀ x ∈ P, x.size ≤ 281474976710656) (hn : P.length ≤ 1048577) (d : Nat) : ∀ (k i : Nat) (out : List Int), i + d = P.length → out.length + d ≤ 1048577 → d + 101 ≤ k →
    impl_readList.l0 k out P (P.length : Int) (i : Int) = some (rdL (P.drop i) out) := by
  induction d with
  | zero =>
    intro k i out hi ho hk
    obtain ⟨k, rfl⟩ : ∃ m, k = m + 1 := ⟨k - 1, by omega⟩
    have e1 : ¬ (i : Int) < (P.length : Int) := by omega
    simp only [impl_readList.l0]
    rw [if_neg e1, List.drop_eq_nil_of_le (by omega)]
    rfl
  | succ d ih =>
    intro k i out hi ho hk
    obtain ⟨k, rfl⟩ : ∃ m, k = m + 1 := ⟨k - 1, by omega⟩
    have hl : i < P.length := by omega
    have e := List.drop_eq_getElem_cons hl
    obtain ⟨hr, _, _⟩ := rdOf_get P i _ _ e
    have hx := hP P[i] (List.getElem_mem hl)
    generalize P[i] = x at hr e hx
    have e1 : (i : Int) < (P.length : Int) := by omega
    have e2 : (0 : Int) ≤ (i : Int) := by omega
    have e3 : out.length < 17592186044416 := by omega
    simp only [impl_readList.l0]
    rw [if_pos e1, if_pos e2, if_pos e1, hr, (av_both x hx k (by omega)).2, wrap_nat i P.length (by omega) (by omega), e]
    simp only [Option.bind_some]
    unfold rdL
    by_cases c : (av x).2 = true
    · rw [if_pos c, if_pos c, if_pos e3]
      exact ih k (i + 1) _ (by omega) (by rw [List.length_append, List.length_singleton]; omega) (by omega)
    · rw [if_neg c, if_neg c]
theorem list_same (s : ByteArray) (hs : s.size ≤ 1048576) (k : Nat) (hk : s.size + 200 ≤ k) : ∃ r : List Int × Bool, spec_ReadList.f k s = some r ∧ impl_ReadList.f k s = some r ∧ r.1.length ≤ 64 := by
  have hP : ∀ x ∈ pcs s, x.size ≤ 281474976710656 := fun x hx => by have := pcs_size s x hx; omega
  have hn := pcs_len s
  unfold spec_ReadList.f spec_l01Numbers.f impl_ReadList.f impl_readList.f impl_pieces.f
  simp only [Option.bind_some]
  by_cases h : s.toList = [110, 111, 110, 101]
  · rw [if_pos h, if_pos h]
    refine ⟨([], true), rfl, ?_, by simp⟩
    obtain ⟨k, rfl⟩ : ∃ m, k = m + 1 := ⟨k - 1, by omega⟩
    rfl
  · rw [if_neg h, if_neg h, cut_f s hs k (by omega), split_f s hs k]
    simp only [Option.bind_some]
    have hi := impl_list (pcs s) hP (by omega) (pcs s).length k 0 [] (by omega) (by simp; omega) (by omega)
    have hsp := spec_list (pcs s) hP (by omega) (pcs s).length k 0 [] (by omega) (by simp; omega) (by omega)
    rw [List.drop_zero, show ((0 : Nat) : Int) = 0 from rfl] at hi hsp
    rw [hi, hsp]
    simp only [Option.bind_some]
    generalize pcs s = P at *
    by_cases c : (rdL P []).2 = true
    · have hlen := rdL_true P [] c
      rw [List.length_nil, Nat.zero_add] at hlen
      by_cases g : (P.length : Int) > 64
      · rw [if_pos g, if_pos c, hlen, if_pos g]
        exact ⟨_, rfl, rfl, by simp⟩
      · rw [if_neg g, if_pos c, hlen, if_neg g]
        exact ⟨((rdL P []).1, true), by simp [c], rfl, by rw [hlen]; omega⟩
    · have hf := rdL_false P [] (by simpa using c)
      rw [hf]
      simp only [Option.bind_some, if_neg (show ¬ (false = true) by decide)]
      exact ⟨([], false), by split <;> rfl, rfl, by simp⟩

end FnExactReadListParts
open FnExactReadListParts

theorem leO_some {α : Type} {a b : α} (h : LeO (some a) (some b)) : a = b := (Option.some.inj (h a rfl)).symm
theorem FnExactReadList (s : ByteArray) : ∃ k, laws_FnExactReadList.f k s = some true := by
  refine ⟨1048900 + 1 + 1, ?_⟩
  unfold laws_FnExactReadList.f
  by_cases h : (s.size : Int) > 1048576
  · rw [if_pos h]
  · rw [if_neg h]
    obtain ⟨⟨o, b⟩, h1, h2, hl⟩ := list_same s (by omega) (1048900 + 1 + 1) (by omega)
    obtain ⟨⟨o', b'⟩, h3, h4, hl'⟩ := list_same s (by omega) (1048900 + 1) (by omega)
    have e : (o', b') = (o, b) := by
      have q := impl_ReadList.mono s (1048900 + 1)
      rw [h4, h2] at q
      exact leO_some q
    injection e with e1 e2
    subst e1; subst e2
    have hl2 : o'.length ≤ 64 := hl
    obtain ⟨y, hy, hyl, hm⟩ := mark_f o' (by omega) (1048900 + 1) (by omega)
    rw [h1, h2]
    simp only [Option.bind_some]
    rw [eq_f o' (by omega) (1048900 + 1 + 1) (by omega)]
    simp only [Option.bind_some, if_true, bne_self_eq_false, laws_FnExactReadList.j0, Bool.false_eq_true, if_false]
    rw [hy]
    simp only [Option.bind_some]
    have hh := held_f y (by omega) hm (1048900 + 1) (by omega)
    rw [hh, hyl]
    simp only [Option.bind_some]
    rw [if_neg (by omega), if_pos trivial, h4]
    simp only [Option.bind_some]
    rw [eq_f o' (by omega) (1048900 + 1) (by omega)]
    simp only [Option.bind_some, if_true, bne_self_eq_false, laws_FnExactReadList.j1, Bool.false_eq_true, if_false]
    rw [held_f y (by omega) hm 1048900 (by omega), hyl]
    simp only [Option.bind_some]
    rw [if_neg (by omega), if_pos trivial]

/-- The walk, joined with the plain law. -/
theorem readListWalk (s : ByteArray) (w : World) (hs : s.size ≤ maxLen) (ht : Go.Proofs.YtdklgllbemiicaaDoor.Tb.TB w) (he : Go.Proofs.YtdklgllbemiicaaDoor.Tb.ER w) (hp : Go.Proofs.YtdklgllbemiicaaDoor.Tb.SP w) :
    Calls Tryd.prog 6 #[.string s] w fun e w' => e = .returned (.bool true) ∧ Below w.heap.size w w' := by
  obtain ⟨k, h⟩ := FnExactReadList s
  exact laws_FnExactReadList.calls k s true w ⟨⟨ht, he⟩, hp⟩ h

end Go.Proofs.YtdklgllbemiicaaDoor.Pure
