/- The plain law of FnExactReadDecimal, over the functions beside: program and reference answer alike. No condition beyond the stated bounds. -/
import Derived.Test.YtdklgllbemiicaaDoorQFnExactReadDecimalx2
namespace Go.Proofs.YtdklgllbemiicaaDoor.Pure
open Go.RowKit Go.Proofs.YtdklgllbemiicaaDoor.QFnExactReadDecimal Go.Proofs.YtdklgllbemiicaaDoorW.PrintWords Go.Proofs.YtdklgllbemiicaaDoorW.PrintLast
set_option linter.unusedSimpArgs false
set_option linter.unusedVariables false

namespace FnExactReadDecimalParts
/-- The digits of a number, as whole numbers. -/
def digs (u : Nat) : List Int := (Lib.decDigits u).map fun b => (b.toNat : Int)
theorem digs_small (u : Nat) (h : u < 10) : digs u = [48 + (u : Int)] := by
  unfold digs
  rw [Lib.decDigits, dif_pos h]
  have : (UInt8.ofNat (48 + u)).toNat = 48 + u := by rw [UInt8.toNat_ofNat']; omega
  simp only [List.map_cons, List.map_nil, this]
  simp
theorem digs_step (u : Nat) (h : ¬ u < 10) : digs u = digs (u / 10) ++ [48 + ((u % 10 : Nat) : Int)] := by
  unfold digs
  rw [Lib.decDigits, dif_neg h]
  have : (UInt8.ofNat (48 + u % 10)).toNat = 48 + u % 10 := by rw [UInt8.toNat_ofNat']; omega
  simp only [List.map_append, List.map_cons, List.map_nil, this]
  simp
theorem digs_ne (u : Nat) : digs u ≠ [] := by
  by_cases h : u < 10
  · rw [digs_small u h]; simp
  · rw [digs_step u h]; simp
theorem digs_len (n : Nat) : ∀ u, u < 10 ^ (n + 1) → (digs u).length ≤ n + 1 := by
  induction n with
  | zero => intro u h; rw [digs_small u (by simpa using h)]; simp
  | succ n ih =>
    intro u h
    by_cases h' : u < 10
    · rw [digs_small u h']; simp
    · rw [digs_step u h']
      have := ih (u / 10) (by rw [Nat.pow_succ] at h; omega)
      simp only [List.length_append, List.length_cons, List.length_nil]
      omega
theorem nums_map (l : List UInt8) : strOfNums (l.map fun b => (b.toNat : Int)) = ⟨l.toArray⟩ := by
  unfold strOfNums
  congr 2
  rw [List.map_map]
  conv => rhs; rw [← List.map_id l]
  apply List.map_congr_left
  intro b _
  simp
theorem str_digs (u : Nat) : strOfNums (digs u) = ⟨(Lib.decDigits u).toArray⟩ := by
  unfold digs; exact nums_map _
theorem str_neg (u : Nat) : strOfNums (45 :: digs u) = ⟨(45 :: Lib.decDigits u).toArray⟩ := by
  unfold digs
  have := nums_map (45 :: Lib.decDigits u)
  rw [List.map_cons] at this
  exact this
/-- The end of the reference's rounds. -/
def fin (x0 : Int) (d : List Int) : ByteArray := if x0 < 0 then strOfNums (45 :: d) else strOfNums d
theorem dec_end (k : Nat) (x0 : Int) (x3 : List Int) (h3 : x3 ≠ []) (hl : x3.length ≤ 1000) : spec_l01Dec.l0 (k + 2) x0 x3 0 = some (fin x0 x3) := by
  simp only [spec_l01Dec.l0]
  have e : ¬ (x3.length : Int) = 0 := by
    intro h; apply h3; exact List.eq_nil_of_length_eq_zero (by omega)
  rw [if_neg e]
  have e0 : ((0 : Int) != 0) = false := rfl
  rw [e0]
  simp only [spec_l01Dec.j1]
  rw [if_neg (by decide)]
  unfold fin
  by_cases h : x0 < 0
  · rw [if_pos h, if_pos h]
    simp only [Option.bind_some]
    rw [if_pos (by simp only [List.length_cons, List.length_nil]; omega)]
    rfl
  · rw [if_neg h, if_neg h]
theorem tmod_sign (x : Int) (u : Nat) (h : x.natAbs = u) : (Int.tmod x 10 < 0 ∧ Int.tmod x 10 = -((u % 10 : Nat) : Int)) ∨ (¬ Int.tmod x 10 < 0 ∧ Int.tmod x 10 = ((u % 10 : Nat) : Int)) := by
  subst h
  rcases Int.natAbs_eq x with e | e
  · right
    have : Int.tmod x 10 = ((x.natAbs % 10 : Nat) : Int) := by
      conv => lhs; rw [e]
      exact (Int.ofNat_tmod x.natAbs 10).symm
    rw [this]; exact ⟨by omega, rfl⟩
  · have : Int.tmod x 10 = -((x.natAbs % 10 : Nat) : Int) := by
      conv => lhs; rw [e]
      rw [Int.neg_tmod]
      exact congrArg _ (Int.ofNat_tmod x.natAbs 10).symm
    by_cases h : x.natAbs % 10 = 0
    · right; rw [this, h]; exact ⟨by decide, by decide⟩
    · left; rw [this]; exact ⟨by omega, rfl⟩
theorem tdiv_abs (x : Int) : (Int.tdiv x 10).natAbs = x.natAbs / 10 := by
  rw [Int.natAbs_tdiv]; rfl
theorem dec_step (k : Nat) (x0 : Int) (x3 : List Int) (x4 : Int) (u : Nat) (hu : x4.natAbs = u) (hx : -9223372036854775808 ≤ x4 ∧ x4 ≤ 9223372036854775807) (h3 : x4 ≠ 0 ∨ x3 = []) (hl : x3.length ≤ 1000) :
    spec_l01Dec.l0 (k + 2) x0 x3 x4 = spec_l01Dec.l0 k x0 ((48 + ((u % 10 : Nat) : Int)) :: x3) (Int.tdiv x4 10) := by
  have hj : spec_l01Dec.l0 (k + 2) x0 x3 x4 = spec_l01Dec.j1 (k + 1) x0 x3 x4 true := by
    simp only [spec_l01Dec.l0]
    by_cases e : (x3.length : Int) = 0
    · rw [if_pos e]
    · rw [if_neg e]
      have : x4 ≠ 0 := by
        rcases h3 with h | h
        · exact h
        · subst h; simp at e
      rw [bne_iff_ne.mpr this]
  rw [hj]
  simp only [spec_l01Dec.j1]
  rw [if_pos trivial]
  have hdiv : wrap64 (Int.tdiv x4 10) = Int.tdiv x4 10 := by
    have h1 := tdiv_abs x4
    have h2 : x4.natAbs ≤ 9223372036854775808 := by omega
    unfold wrap64; omega
  rw [hdiv]
  have hm : u % 10 < 10 := Nat.mod_lt _ (by decide)
  rcases tmod_sign x4 u hu with ⟨hs, hv⟩ | ⟨hs, hv⟩
  · rw [if_pos hs]
    simp only [Option.bind_some]
    rw [if_pos (by simp only [List.length_cons, List.length_nil]; omega), hv]
    have : wrap64 (48 + wrap64 (- -((u % 10 : Nat) : Int))) % 256 = 48 + ((u % 10 : Nat) : Int) := by unfold wrap64; omega
    rw [this]; rfl
  · rw [if_neg hs]
    simp only [Option.bind_some]
    rw [if_pos (by simp only [List.length_cons, List.length_nil]; omega), hv]
    have : wrap64 (48 + ((u % 10 : Nat) : Int)) % 256 = 48 + ((u % 10 : Nat) : Int) := by unfold wrap64; omega
    rw [this]; rfl
theorem dec_loop (n : Nat) : ∀ (k u : Nat) (x0 : Int) (x3 : List Int) (x4 : Int), x4.natAbs = u → (-9223372036854775808 ≤ x4 ∧ x4 ≤ 9223372036854775807) → (x4 ≠ 0 ∨ x3 = []) → u < 10 ^ (n + 1) → x3.length + n ≤ 900 →
    spec_l01Dec.l0 (k + 2 + 2 * (n + 1)) x0 x3 x4 = some (fin x0 (digs u ++ x3)) := by
  induction n with
  | zero =>
    intro k u x0 x3 x4 hu hx h3 hn hl
    have hs : u < 10 := by simpa using hn
    rw [show k + 2 + 2 * (0 + 1) = (k + 2) + 2 by omega, dec_step (k + 2) x0 x3 x4 u hu hx h3 (by omega)]
    have h0 : Int.tdiv x4 10 = 0 := by have := tdiv_abs x4; omega
    rw [h0, dec_end k x0 _ (by simp) (by simp only [List.length_cons]; omega), digs_small u hs, Nat.mod_eq_of_lt hs]
    rfl
  | succ n ih =>
    intro k u x0 x3 x4 hu hx h3 hn hl
    by_cases hs : u < 10
    · rw [show k + 2 + 2 * (n + 1 + 1) = (k + 2 * (n + 1)) + 2 + 2 by omega, dec_step _ x0 x3 x4 u hu hx h3 (by omega)]
      have h0 : Int.tdiv x4 10 = 0 := by have := tdiv_abs x4; omega
      rw [h0, dec_end _ x0 _ (by simp) (by simp only [List.length_cons]; omega), digs_small u hs, Nat.mod_eq_of_lt hs]
      rfl
    · rw [show k + 2 + 2 * (n + 1 + 1) = (k + 2 + 2 * (n + 1)) + 2 by omega, dec_step _ x0 x3 x4 u hu hx h3 (by omega)]
      have ha := tdiv_abs x4
      have hn' : u / 10 < 10 ^ (n + 1) := by rw [Nat.pow_succ] at hn; exact Nat.div_lt_of_lt_mul (by rw [Nat.mul_comm]; exact hn)
      clear hn
      rw [ih k (u / 10) x0 _ (Int.tdiv x4 10) (by rw [ha, hu]) (by clear hn'; omega) (Or.inl (by clear hn'; intro h; rw [h] at ha; simp at ha; omega)) hn' (by simp only [List.length_cons]; omega), digs_step u hs, List.append_assoc]
      rfl
/-- The reference's decimal text is the library's. -/
theorem dec_f (k : Nat) (hk : 44 ≤ k) (x : Int) (hx : -9223372036854775808 ≤ x ∧ x ≤ 9223372036854775807) : spec_l01Dec.f k x = some ⟨(Lib.itoa x).toArray⟩ := by
  unfold spec_l01Dec.f
  obtain ⟨d, rfl⟩ : ∃ d, k = d + 2 + 2 * (19 + 1) := ⟨k - 42, by omega⟩
  have hn : x.natAbs < 10 ^ (19 + 1) := by
    have h1 : x.natAbs ≤ 9223372036854775808 := by omega
    exact Nat.lt_of_le_of_lt h1 (by decide)
  rw [dec_loop 19 d x.natAbs x [] x rfl hx (Or.inr rfl) hn (by decide), List.append_nil]
  clear hn
  unfold fin Lib.itoa
  by_cases h : x < 0
  · rw [if_pos h, if_pos h, str_neg]
  · rw [if_neg h, if_neg h, str_digs]
    have : x.toNat = x.natAbs := by omega
    rw [this]

abbrev inR (x : Int) : Prop := -1000000000000000 ≤ x ∧ x ≤ 1000000000000000
/-- A number's decimal text. -/
def T (x : Int) : ByteArray := ⟨(Lib.itoa x).toArray⟩
theorem itoa_len (x : Int) (h : inR x) : (Lib.itoa x).length ≤ 20 := by
  have hd : ∀ u : Nat, u ≤ 1000000000000000 → (Lib.decDigits u).length ≤ 18 := by
    intro u hu
    have := digs_len 17 u (Nat.lt_of_le_of_lt hu (by decide))
    unfold digs at this
    simpa using this
  unfold inR at h
  unfold Lib.itoa
  by_cases hx : x < 0
  · rw [if_pos hx]; have := hd x.natAbs (by omega); simp only [List.length_cons]; omega
  · rw [if_neg hx]; have := hd x.toNat (by omega); omega
theorem T_size (x : Int) (h : inR x) : (T x).size ≤ 20 := by
  have := itoa_len x h
  show ((Lib.itoa x).toArray).size ≤ 20
  simpa using this
theorem T_dec (k : Nat) (hk : 44 ≤ k) (x : Int) (h : inR x) : spec_l01Dec.f k x = some (T x) := dec_f k hk x (by unfold inR at h; omega)
theorem T_impl (k : Nat) (x : Int) (h : inR x) : impl_Decimal.f k x = some (T x) := by
  unfold impl_Decimal.f strconv_FormatInt_20.f
  rw [if_pos ⟨rfl, by unfold inR at h; omega⟩]
  rfl
theorem in_f (x : Int) : spec_l00In.f x (-1000000000000000) 1000000000000000 = some (decide (inR x)) := by
  unfold spec_l00In.f inR
  by_cases h : x ≥ -1000000000000000
  · rw [if_pos h]; simp [show -1000000000000000 ≤ x from h]
  · rw [if_neg h]; simp; omega
theorem isValue_f (x : Int) : impl_isValue.f x = some (decide (inR x)) := by
  unfold impl_isValue.f impl_within.f inR
  by_cases h : x ≥ -1000000000000000
  · rw [if_pos h]; simp [show -1000000000000000 ≤ x from h]
  · rw [if_neg h]; simp; omega

theorem I64_wrap (x : Int) : -9223372036854775808 ≤ wrap64 x ∧ wrap64 x ≤ 9223372036854775807 := by unfold wrap64; omega
/-- What the digits of a text tell, other signs passed over. -/
def val : List UInt8 → Nat → Nat
  | [], n => n
  | b :: r, n => if 48 ≤ b.toNat ∧ b.toNat ≤ 57 then val r (10 * n + (b.toNat - 48)) else val r n
theorem val_ge (l : List UInt8) : ∀ n, n ≤ val l n := by
  induction l with
  | nil => intro n; exact Nat.le_refl _
  | cons b r ih =>
    intro n
    unfold val
    split
    · have := ih (10 * n + (b.toNat - 48)); omega
    · exact ih n
theorem val_app (l : List UInt8) (b : UInt8) : ∀ n, val (l ++ [b]) n = if 48 ≤ b.toNat ∧ b.toNat ≤ 57 then 10 * val l n + (b.toNat - 48) else val l n := by
  induction l with
  | nil => intro n; rfl
  | cons c r ih =>
    intro n
    rw [List.cons_append]
    unfold val
    split
    · exact ih _
    · exact ih _
theorem digit_of (d : Nat) (h : d < 10) : (UInt8.ofNat (48 + d)).toNat = 48 + d := by rw [UInt8.toNat_ofNat']; omega
theorem val_dec (n : Nat) : ∀ u, u ≤ n → val (Lib.decDigits u) 0 = u := by
  induction n with
  | zero =>
    intro u h
    have h0 : u = 0 := by omega
    subst h0
    rw [Lib.decDigits, dif_pos (by decide)]
    unfold val
    rw [digit_of 0 (by decide), if_pos ⟨by decide, by decide⟩]
    rfl
  | succ n ih =>
    intro u h
    by_cases hs : u < 10
    · rw [Lib.decDigits, dif_pos hs]
      unfold val
      rw [digit_of u hs, if_pos ⟨by omega, by omega⟩]
      unfold val; omega
    · rw [Lib.decDigits, dif_neg hs, val_app, digit_of (u % 10) (Nat.mod_lt _ (by decide)), ih (u / 10) (by omega), if_pos ⟨by omega, by omega⟩]
      omega
theorem dec_digit (n : Nat) : ∀ u, u ≤ n → ∀ b ∈ Lib.decDigits u, 48 ≤ b.toNat ∧ b.toNat ≤ 57 := by
  induction n with
  | zero =>
    intro u h b hb
    rw [Lib.decDigits, dif_pos (by omega)] at hb
    rw [List.mem_singleton.1 hb, digit_of u (by omega)]; omega
  | succ n ih =>
    intro u h b hb
    by_cases hs : u < 10
    · rw [Lib.decDigits, dif_pos hs] at hb
      rw [List.mem_singleton.1 hb, digit_of u hs]; omega
    · rw [Lib.decDigits, dif_neg hs] at hb
      rcases List.mem_append.1 hb with hb | hb
      · exact ih (u / 10) (by omega) b hb
      · rw [List.mem_singleton.1 hb, digit_of (u % 10) (Nat.mod_lt _ (by decide))]; omega
theorem dec_ne (u : Nat) : Lib.decDigits u ≠ [] := by
  intro h
  have := digs_ne u
  unfold digs at this
  rw [h] at this
  exact this rfl
theorem parseM (l : List UInt8) : ∀ acc, (∀ b ∈ l, 48 ≤ b.toNat ∧ b.toNat ≤ 57) → val l acc ≤ 1000000000000000 → Lib.parseUintM 18446744073709551615 acc l = .ok (val l acc) := by
  induction l with
  | nil => intro acc _ _; rfl
  | cons b r ih =>
    intro acc hd hv
    have hb := hd b List.mem_cons_self
    have e : val (b :: r) acc = val r (10 * acc + (b.toNat - 48)) := by
      conv => lhs; unfold val
      rw [if_pos hb]
    rw [e] at hv ⊢
    have hg := val_ge r (10 * acc + (b.toNat - 48))
    unfold Lib.parseUintM
    rw [if_pos hb, if_neg (by omega), if_neg (by omega), Nat.mul_comm acc 10]
    exact ih _ (fun c hc => hd c (List.mem_cons_of_mem _ hc)) hv
theorem parseU (u : Nat) (h : u ≤ 1000000000000000) : Lib.parseUintB 64 (Lib.decDigits u) = .ok u := by
  unfold Lib.parseUintB
  rw [if_neg (dec_ne u)]
  have := parseM (Lib.decDigits u) 0 (dec_digit u u (Nat.le_refl _)) (by rw [val_dec u u (Nat.le_refl _)]; exact h)
  rw [val_dec u u (Nat.le_refl _)] at this
  exact this
theorem signless_ok (v : Int) (h0 : 0 ≤ v) (h : v ≤ 1000000000000000) : Lib.signlessC (2 ^ (64 - 1)) (.ok v.toNat) = .ok v := by
  have hp : (2 : Nat) ^ (64 - 1) = 9223372036854775808 := rfl
  unfold Lib.signlessC
  simp only [hp]
  rw [if_neg (by omega), Int.toNat_of_nonneg h0]
theorem parse_T (v : Int) (h : inR v) : Lib.parseIntB 64 (Lib.itoa v) = .ok v := by
  unfold inR at h
  unfold Lib.itoa
  by_cases hv : v < 0
  · rw [if_pos hv]
    unfold Lib.parseIntB
    simp only [show (45 : UInt8).toNat = 45 from rfl, or_true, if_true, true_and, not_true, false_and, if_false]
    rw [parseU v.natAbs (by omega)]
    simp only
    rw [if_neg (by omega)]
    congr 1; omega
  · rw [if_neg hv]
    obtain ⟨c, r, e⟩ : ∃ c r, Lib.decDigits v.toNat = c :: r := by
      cases hd : Lib.decDigits v.toNat with
      | nil => exact absurd hd (dec_ne _)
      | cons c r => exact ⟨c, r, rfl⟩
    have hc := dec_digit v.toNat v.toNat (Nat.le_refl _) c (by rw [e]; exact List.mem_cons_self)
    have hp := parseU v.toNat (by omega)
    rw [e] at hp ⊢
    rw [Lib.parseIntB_plain 64 c r (by omega) (by omega), hp]
    exact signless_ok v (by omega) h.2
theorem bt_get (s : ByteArray) (i : Int) (b : UInt8) (r : List UInt8) (h : s.data.toList.drop i.toNat = b :: r) : bt s i = (b.toNat : Int) ∧ i.toNat < s.size := by
  have hl : i.toNat < s.data.toList.length := by
    rcases Nat.lt_or_ge i.toNat s.data.toList.length with h' | h'
    · exact h'
    · rw [List.drop_eq_nil_of_le h'] at h; cases h
  have hs : i.toNat < s.size := by rw [Lib.size_eq]; exact hl
  refine ⟨?_, hs⟩
  rw [List.drop_eq_getElem_cons hl] at h
  injection h with h1 h2
  unfold bt
  rw [dif_pos hs, ← h1]
  rfl
/-- The end of the reference's rounds. -/
def tail (m : Nat) (s : ByteArray) (x : Int) : Option (Int × Bool) := if 0 < (s.size : Int) then (if (bt s 0) = 45 then (spec_l01Value.j2 m s (wrap64 (-x))) else (spec_l01Value.j2 m s x)) else (none)
theorem l0_end (m : Nat) (s : ByteArray) (x i : Int) (h : ¬ i < (s.size : Int)) : spec_l01Value.l0 (m + 1) s x i = tail m s x := by
  simp only [spec_l01Value.l0]
  rw [if_neg h]; rfl
theorem step_val (n z : Nat) (h1 : 48 ≤ z) (h2 : z ≤ 57) (h : 10 * n + (z - 48) ≤ 1000000000000000) : wrap64 (wrap64 (10 * (n : Int)) + ((z : Int) - 48) % 256) = ((10 * n + (z - 48) : Nat) : Int) := by
  have e1 : ((z : Int) - 48) % 256 = (z : Int) - 48 := by omega
  have e2 : wrap64 (10 * (n : Int)) = 10 * (n : Int) := by unfold wrap64; omega
  have e3 : wrap64 (10 * (n : Int) + ((z : Int) - 48)) = 10 * (n : Int) + ((z : Int) - 48) := by unfold wrap64; omega
  rw [e1, e2, e3]
  omega
/-- The digits' value, where it is small. -/
theorem value_loop (s : ByteArray) (hs : s.size ≤ 1000) (u : Nat) (hu : u ≤ 1000000000000000) (m : Nat) (d : Nat) : ∀ (i : Int) (n : Nat), 0 ≤ i → (s.size : Int) - i = d → val (s.data.toList.drop i.toNat) n = u →
    spec_l01Value.l0 (m + d + 1) s (n : Int) i = tail m s (u : Int) := by
  induction d with
  | zero =>
    intro i n h0 hd hv
    rw [List.drop_eq_nil_of_le (by rw [← Lib.size_eq]; omega)] at hv
    rw [show m + 0 + 1 = m + 1 from rfl, l0_end m s _ i (by omega), ← hv]
    rfl
  | succ d ih =>
    intro i n h0 hd hv
    have hl : i.toNat < s.data.toList.length := by rw [← Lib.size_eq]; omega
    have e := List.drop_eq_getElem_cons hl
    obtain ⟨hb, _⟩ := bt_get s i _ _ e
    generalize s.data.toList[i.toNat] = b at hb e
    have e1 : (i + 1).toNat = i.toNat + 1 := by omega
    rw [e, ← e1] at hv
    have hw : wrap64 (i + 1) = i + 1 := by unfold wrap64; omega
    rw [show m + (d + 1) + 1 = (m + d + 1) + 1 by omega]
    simp only [spec_l01Value.l0]
    rw [if_pos (by omega), if_pos h0, hb, hw]
    unfold val at hv
    by_cases hd1 : 48 ≤ b.toNat
    · rw [if_pos (by omega)]
      by_cases hd2 : b.toNat ≤ 57
      · rw [if_pos (by omega)]
        rw [if_pos ⟨hd1, hd2⟩] at hv
        have hg := val_ge (s.data.toList.drop (i + 1).toNat) (10 * n + (b.toNat - 48))
        have ew : wrap64 (wrap64 (10 * (n : Int)) + ((b.toNat : Int) - 48) % 256) = ((10 * n + (b.toNat - 48) : Nat) : Int) := step_val n b.toNat hd1 hd2 (by rw [hv] at hg; omega)
        rw [ew]
        exact ih (i + 1) _ (by omega) (by omega) hv
      · rw [if_neg (by omega)]
        rw [if_neg (by omega)] at hv
        exact ih (i + 1) n (by omega) (by omega) hv
    · rw [if_neg (by omega)]
      rw [if_neg (by omega)] at hv
      exact ih (i + 1) n (by omega) (by omega) hv
/-- Some value, whatever the text. -/
theorem some_loop (s : ByteArray) (hs : s.size ≤ 1000) (m : Nat) (d : Nat) : ∀ (i n : Int), 0 ≤ i → (s.size : Int) - i = d → (-9223372036854775808 ≤ n ∧ n ≤ 9223372036854775807) →
    ∃ x, (-9223372036854775808 ≤ x ∧ x ≤ 9223372036854775807) ∧ spec_l01Value.l0 (m + d + 1) s n i = tail m s x := by
  induction d with
  | zero =>
    intro i n h0 hd hn
    exact ⟨n, hn, by rw [show m + 0 + 1 = m + 1 from rfl, l0_end m s _ i (by omega)]⟩
  | succ d ih =>
    intro i n h0 hd hn
    have hw : wrap64 (i + 1) = i + 1 := by unfold wrap64; omega
    rw [show m + (d + 1) + 1 = (m + d + 1) + 1 by omega]
    simp only [spec_l01Value.l0]
    rw [if_pos (by omega), if_pos h0, hw]
    by_cases h1 : bt s i ≥ 48
    · rw [if_pos h1]
      by_cases h2 : bt s i ≤ 57
      · rw [if_pos h2]; exact ih (i + 1) _ (by omega) (by omega) (I64_wrap _)
      · rw [if_neg h2]; exact ih (i + 1) n (by omega) (by omega) hn
    · rw [if_neg h1]; exact ih (i + 1) n (by omega) (by omega) hn
theorem j2_f (m : Nat) (hm : 44 ≤ m) (s : ByteArray) (x : Int) (hx : -9223372036854775808 ≤ x ∧ x ≤ 9223372036854775807) :
    spec_l01Value.j2 (m + 1) s x = some (if inR x ∧ (T x).toList = s.toList then (x, true) else (0, false)) := by
  simp only [spec_l01Value.j2]
  rw [in_f]
  simp only [Option.bind_some]
  by_cases h : inR x
  · rw [decide_eq_true h, if_pos rfl, T_dec m hm x h]
    simp only [Option.bind_some]
    by_cases e : (T x).toList = s.toList
    · rw [if_pos e, if_pos ⟨h, e⟩]
    · rw [if_neg e, if_neg (fun q => e q.2)]
  · rw [decide_eq_false h, if_neg (by decide), if_neg (fun q => h q.1)]
theorem str_eq {a b : ByteArray} (h : a.toList = b.toList) : a = b := by
  rw [ByteArray.toList_eq, ByteArray.toList_eq] at h
  exact Go.WideShapes.bytes_inj h
theorem T_len (v : Int) (h : inR v) : 1 ≤ (T v).size ∧ (T v).size ≤ 17 := by
  have hd : ∀ u : Nat, u ≤ 1000000000000000 → (Lib.decDigits u).length ≤ 16 := by
    intro u hu
    have := digs_len 15 u (Nat.lt_of_le_of_lt hu (by decide))
    unfold digs at this
    simpa using this
  have he : (T v).size = (Lib.itoa v).length := by
    show ((Lib.itoa v).toArray).size = _
    simp
  unfold inR at h
  rw [he]
  unfold Lib.itoa
  by_cases hx : v < 0
  · rw [if_pos hx]; have := hd v.natAbs (by omega); simp only [List.length_cons]; omega
  · rw [if_neg hx]
    have := hd v.toNat (by omega)
    have h1 : (Lib.decDigits v.toNat).length ≠ 0 := fun e => dec_ne _ (List.eq_nil_of_length_eq_zero e)
    omega
/-- What both answer. -/
def answer (s : ByteArray) (r : Int × Bool) : Prop := (∃ v, inR v ∧ T v = s ∧ r = (v, true)) ∨ ((¬ ∃ v, inR v ∧ T v = s) ∧ r = (0, false))
theorem spec_answer (s : ByteArray) (k : Nat) (hk : 100 ≤ k) : ∃ r, spec_l01Value.f k s = some r ∧ answer s r := by
  obtain ⟨k, rfl⟩ : ∃ m, k = m + 1 := ⟨k - 1, by omega⟩
  have hj0 : spec_l01Value.f (k + 1) s = if s.size < 1 ∨ 17 < s.size then some (0, false) else spec_l01Value.l0 k s 0 0 := by
    unfold spec_l01Value.f
    by_cases h1 : (s.size : Int) < 1
    · rw [if_pos h1]; simp only [spec_l01Value.j0]; rw [if_pos trivial, if_pos (by omega)]
    · rw [if_neg h1]
      by_cases h2 : (s.size : Int) > 17
      · rw [decide_eq_true h2]; simp only [spec_l01Value.j0]; rw [if_pos trivial, if_pos (by omega)]
      · rw [decide_eq_false h2]; simp only [spec_l01Value.j0]; rw [if_neg (by decide), if_neg (by omega)]
  rw [hj0]
  by_cases ex : ∃ v, inR v ∧ T v = s
  · obtain ⟨v, hv, rfl⟩ := ex
    have hl := T_len v hv
    refine ⟨(v, true), ?_, Or.inl ⟨v, hv, rfl, rfl⟩⟩
    rw [if_neg (by omega)]
    obtain ⟨m, hm, hk'⟩ : ∃ m, 44 ≤ m ∧ k = (m + 1) + (T v).size + 1 := ⟨k - (T v).size - 2, by omega, by omega⟩
    have hval : val ((T v).data.toList.drop (0 : Int).toNat) 0 = v.natAbs := by
      have e : (T v).data.toList = Lib.itoa v := by simp [T]
      rw [e]
      simp only [Int.toNat_zero, List.drop_zero]
      unfold Lib.itoa
      by_cases h : v < 0
      · rw [if_pos h]
        unfold val
        rw [if_neg (by decide)]
        exact val_dec _ _ (Nat.le_refl _)
      · rw [if_neg h, val_dec _ _ (Nat.le_refl _)]; omega
    have := value_loop (T v) (by omega) v.natAbs (by unfold inR at hv; omega) (m + 1) (T v).size 0 0 (by decide) (by omega) hval
    rw [hk', show ((0 : Nat) : Int) = 0 from rfl] at *
    rw [this]
    unfold tail
    rw [if_pos (by omega)]
    have e : (T v).data.toList.drop (0 : Int).toNat = Lib.itoa v := by simp [T]
    by_cases h : v < 0
    · have hb : bt (T v) 0 = 45 := by
        have e' : (T v).data.toList.drop (0 : Int).toNat = 45 :: Lib.decDigits v.natAbs := by rw [e]; unfold Lib.itoa; rw [if_pos h]
        have := (bt_get (T v) 0 _ _ e').1
        rw [this]; rfl
      have ew : wrap64 (-(v.natAbs : Int)) = v := by unfold inR at hv; unfold wrap64; omega
      rw [if_pos hb, ew, j2_f m hm _ v (by unfold inR at hv; omega), if_pos ⟨hv, rfl⟩]
    · have hb : ¬ bt (T v) 0 = 45 := by
        obtain ⟨c, r, ec⟩ : ∃ c r, Lib.decDigits v.toNat = c :: r := by
          cases hd : Lib.decDigits v.toNat with
          | nil => exact absurd hd (dec_ne _)
          | cons c r => exact ⟨c, r, rfl⟩
        have hc := dec_digit v.toNat v.toNat (Nat.le_refl _) c (by rw [ec]; exact List.mem_cons_self)
        have e' : (T v).data.toList.drop (0 : Int).toNat = c :: r := by rw [e]; unfold Lib.itoa; rw [if_neg h, ec]
        have := (bt_get (T v) 0 _ _ e').1
        rw [this]; omega
      have ew : (v.natAbs : Int) = v := by omega
      rw [if_neg hb, ew, j2_f m hm _ v (by unfold inR at hv; omega), if_pos ⟨hv, rfl⟩]
  · refine ⟨(0, false), ?_, Or.inr ⟨ex, rfl⟩⟩
    by_cases hsz : s.size < 1 ∨ 17 < s.size
    · rw [if_pos hsz]
    · rw [if_neg hsz]
      obtain ⟨m, hm, hk'⟩ : ∃ m, 44 ≤ m ∧ k = (m + 1) + s.size + 1 := ⟨k - s.size - 2, by omega, by omega⟩
      obtain ⟨x, hx, e⟩ := some_loop s (by omega) (m + 1) s.size 0 0 (by decide) (by omega) (by decide)
      rw [hk', e]
      have no : ∀ y, ¬ (inR y ∧ (T y).toList = s.toList) := fun y q => ex ⟨y, q.1, str_eq q.2⟩
      unfold tail
      rw [if_pos (by omega)]
      by_cases hb : bt s 0 = 45
      · rw [if_pos hb, j2_f m hm _ _ (I64_wrap _), if_neg (no _)]
      · rw [if_neg hb, j2_f m hm _ _ hx, if_neg (no _)]
theorem impl_answer (s : ByteArray) (hs : s.size ≤ 281474976710656) (k : Nat) : ∃ r, impl_ReadDecimal.f k s = some r ∧ answer s r := by
  unfold impl_ReadDecimal.f strconv_ParseInt_26.f
  rw [if_pos ⟨rfl, rfl, hs⟩]
  simp only [Option.bind_some]
  have hpv : (∃ v, Lib.parseIntB 64 s.data.toList = .ok v ∧ Go.Proofs.YtdklgllbemiicaaDoor.Tb.parseV s = (v, false)) ∨ ((¬ ∃ v, Lib.parseIntB 64 s.data.toList = .ok v) ∧ ∃ y, Go.Proofs.YtdklgllbemiicaaDoor.Tb.parseV s = (y, true)) := by
    unfold Go.Proofs.YtdklgllbemiicaaDoor.Tb.parseV
    cases hp : Lib.parseIntB 64 s.data.toList with
    | ok v => exact Or.inl ⟨v, rfl, rfl⟩
    | «syntax» => exact Or.inr ⟨(fun ⟨v, h⟩ => by cases h), ⟨_, rfl⟩⟩
    | range => exact Or.inr ⟨(fun ⟨v, h⟩ => by cases h), ⟨_, rfl⟩⟩
  rcases hpv with ⟨v, hp, e⟩ | ⟨hp, y, e⟩
  · rw [e]
    simp only [if_neg (show ¬ (false = true) by decide)]
    rw [isValue_f]
    simp only [Option.bind_some]
    by_cases hv : inR v
    · rw [decide_eq_true hv, if_pos rfl, T_impl k v hv]
      simp only [Option.bind_some]
      by_cases ht : (T v).toList = s.toList
      · rw [if_pos ht]; exact ⟨_, rfl, Or.inl ⟨v, hv, str_eq ht, rfl⟩⟩
      · rw [if_neg ht]
        refine ⟨_, rfl, Or.inr ⟨fun ⟨z, hz, ez⟩ => ?_, rfl⟩⟩
        have h1 : s.data.toList = Lib.itoa z := by rw [← ez]; simp [T]
        rw [h1, parse_T z hz] at hp
        injection hp with hp
        subst hp
        exact ht (by rw [ez])
    · rw [decide_eq_false hv, if_neg (by decide)]
      refine ⟨_, rfl, Or.inr ⟨fun ⟨z, hz, ez⟩ => ?_, rfl⟩⟩
      have h1 : s.data.toList = Lib.itoa z := by rw [← ez]; simp [T]
      rw [h1, parse_T z hz] at hp
      injection hp with hp
      subst hp
      exact hv hz
  · rw [e]
    simp only [if_true]
    refine ⟨_, rfl, Or.inr ⟨fun ⟨z, hz, ez⟩ => hp ⟨z, ?_⟩, rfl⟩⟩
    have h1 : s.data.toList = Lib.itoa z := by rw [← ez]; simp [T]
    rw [h1, parse_T z hz]
theorem T_inj (a b : Int) (ha : inR a) (hb : inR b) (h : T a = T b) : a = b := by
  have h1 : Lib.itoa a = Lib.itoa b := by
    have := congrArg (fun s => s.data.toList) h
    simpa [T] using this
  have h2 := parse_T a ha
  rw [h1, parse_T b hb] at h2
  injection h2 with h2
  exact h2.symm
theorem answer_one {s : ByteArray} {r q : Int × Bool} (h : answer s r) (g : answer s q) : r = q := by
  rcases h with ⟨v, hv, e, rfl⟩ | ⟨n, rfl⟩
  · rcases g with ⟨z, hz, e', rfl⟩ | ⟨n, _⟩
    · rw [T_inj v z hv hz (e.trans e'.symm)]
    · exact absurd ⟨v, hv, e⟩ n
  · rcases g with ⟨z, hz, e', _⟩ | ⟨_, rfl⟩
    · exact absurd ⟨z, hz, e'⟩ n
    · rfl
theorem value_both (s : ByteArray) (hs : s.size ≤ 281474976710656) (k : Nat) (hk : 100 ≤ k) : ∃ r, spec_l01Value.f k s = some r ∧ impl_ReadDecimal.f k s = some r ∧ answer s r := by
  obtain ⟨r, h1, h2⟩ := spec_answer s k hk
  obtain ⟨q, h3, h4⟩ := impl_answer s hs k
  have e := answer_one h2 h4
  subst e
  exact ⟨r, h1, h3, h2⟩

end FnExactReadDecimalParts
open FnExactReadDecimalParts

theorem FnExactReadDecimal (s : ByteArray) : ∃ k, laws_FnExactReadDecimal.f k s = some true := by
  refine ⟨100, ?_⟩
  unfold laws_FnExactReadDecimal.f
  by_cases h : (s.size : Int) > 1048576
  · rw [if_pos h]
  · rw [if_neg h]
    obtain ⟨r, h1, h2, _⟩ := value_both s (by omega) 100 (Nat.le_refl _)
    unfold spec_ReadDecimal.f
    rw [h1, h2]
    simp only [Option.bind_some, if_true, bne_self_eq_false]
    rfl

/-- The walk, joined with the plain law. -/
theorem readDecimalWalk (s : ByteArray) (w : World) (hs : s.size ≤ maxLen) (ht : Go.Proofs.YtdklgllbemiicaaDoor.Tb.TB w) (he : Go.Proofs.YtdklgllbemiicaaDoor.Tb.ER w) :
    Calls Tryd.prog 5 #[.string s] w fun e w' => e = .returned (.bool true) ∧ Below w.heap.size w w' := by
  obtain ⟨k, h⟩ := FnExactReadDecimal s
  exact laws_FnExactReadDecimal.calls k s true w ⟨ht, he⟩ h

end Go.Proofs.YtdklgllbemiicaaDoor.Pure
