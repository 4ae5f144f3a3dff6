/- The plain law of FnExactListText, over the functions beside: program and reference answer alike. No condition beyond the stated bounds. -/
import Derived.Test.YtdklgllbemiicaaDoorQFnExactListTextx2
namespace Go.Proofs.YtdklgllbemiicaaDoor.Pure
open Go.RowKit Go.Proofs.YtdklgllbemiicaaDoor.QFnExactListText Go.Proofs.YtdklgllbemiicaaDoorW.PrintWords Go.Proofs.YtdklgllbemiicaaDoorW.PrintLast
set_option linter.unusedSimpArgs false
set_option linter.unusedVariables false

namespace FnExactListTextParts
theorem rd_get (x : List Int) (i : Int) (h0 : 0 ≤ i) (h : i < (x.length : Int)) : x[i.toNat]? = some (rd x i) := by
  unfold rd
  rw [List.getD_eq_getElem?_getD, List.getElem?_eq_getElem (by omega)]
  rfl

theorem wrap_up {i : Int} {n : Nat} (h0 : 0 ≤ i) (h : i < (n : Int)) (hn : n ≤ 140737488351232) : wrap64 (i + 1) = i + 1 := by
  unfold wrap64; omega

theorem copy_loop (x0 : List Int) (hn : x0.length ≤ 140737488351232) (d : Nat) : ∀ (k : Nat) (x3 : List Int) (i : Int), 0 ≤ i → (x0.length : Int) - i = d → x3.length = x0.length →
    (∀ j : Nat, (j : Int) < i → x3[j]? = x0[j]?) → d < k → laws_toInt64S.l0 k x0 x3 i = some x0 := by
  induction d with
  | zero =>
    intro k x3 i h0 hd hl hj hk
    obtain ⟨k, rfl⟩ : ∃ m, k = m + 1 := ⟨k - 1, by omega⟩
    simp only [laws_toInt64S.l0]
    rw [if_neg (by omega)]
    congr 1
    apply List.ext_getElem?
    intro j
    by_cases h : (j : Int) < i
    · exact hj j h
    · rw [List.getElem?_eq_none (by omega), List.getElem?_eq_none (by omega)]
  | succ d ih =>
    intro k x3 i h0 hd hl hj hk
    obtain ⟨k, rfl⟩ : ∃ m, k = m + 1 := ⟨k - 1, by omega⟩
    simp only [laws_toInt64S.l0]
    rw [if_pos (by omega), if_pos h0, if_pos (by omega), wrap_up (n := x0.length) h0 (by omega) hn]
    refine ih k _ (i + 1) (by omega) (by omega) (by simpa using hl) ?_ (by omega)
    intro j hlt
    rw [List.getElem?_set]
    by_cases h : i.toNat = j
    · subst h
      rw [if_pos rfl, if_pos (by omega), rd_get x0 i h0 (by omega)]
    · rw [if_neg h]
      exact hj j (by omega)

theorem copy_f (x0 : List Int) (hn : x0.length * 8 ≤ 140737488351232) (k : Nat) (hk : x0.length < k) : laws_toInt64S.f k x0 = some x0 := by
  unfold laws_toInt64S.f
  rw [if_pos (by omega), if_pos (by omega)]
  exact copy_loop x0 (by omega) x0.length k _ 0 (by omega) (by omega) (by simp) (by intro j h; omega) hk

theorem eq_loop (x0 : List Int) (hn : x0.length ≤ 140737488351232) (d : Nat) : ∀ (k : Nat) (i : Int), 0 ≤ i → (x0.length : Int) - i = d → d < k → laws_eqInt64S.l0 k x0 x0 i = some true := by
  induction d with
  | zero =>
    intro k i h0 hd hk
    obtain ⟨k, rfl⟩ : ∃ m, k = m + 1 := ⟨k - 1, by omega⟩
    simp only [laws_eqInt64S.l0]
    rw [if_neg (by omega)]
  | succ d ih =>
    intro k i h0 hd hk
    obtain ⟨k, rfl⟩ : ∃ m, k = m + 1 := ⟨k - 1, by omega⟩
    simp only [laws_eqInt64S.l0]
    rw [if_pos (by omega), if_pos h0, if_pos (by omega), if_pos trivial, show wrap64 (i + 1) = i + 1 by unfold wrap64; omega]
    exact ih k (i + 1) (by omega) (by omega) (by omega)

theorem eq_f (x0 : List Int) (hn : x0.length ≤ 140737488351232) (k : Nat) (hk : x0.length < k) : laws_eqInt64S.f k x0 x0 = some true := by
  unfold laws_eqInt64S.f
  rw [if_pos rfl]
  exact eq_loop x0 hn x0.length k 0 (by omega) (by omega) hk

/-- The digits of a number, as whole numbers. -/
def digs (u : Nat) : List Int := (Lib.decDigits u).map fun b => (b.toNat : Int)
theorem digs_small (u : Nat) (h : u < 10) : digs u = [48 + (u : Int)] := by
  unfold digs
  rw [Lib.decDigits, dif_pos h]
  have : (UInt8.ofNat (48 + u)).toNat = 48 + u := by rw [UInt8.toNat_ofNat']; omega
  simp only [List.map_cons, List.map_nil, this]
  simp
theorem digs_step (u : Nat) (h : ¬ u < 10) : digs u = digs (u / 10) ++ [48 + ((u % 10 : Nat) : Int)] := by
  unfold digs
  rw [Lib.decDigits, dif_neg h]
  have : (UInt8.ofNat (48 + u % 10)).toNat = 48 + u % 10 := by rw [UInt8.toNat_ofNat']; omega
  simp only [List.map_append, List.map_cons, List.map_nil, this]
  simp
theorem digs_ne (u : Nat) : digs u ≠ [] := by
  by_cases h : u < 10
  · rw [digs_small u h]; simp
  · rw [digs_step u h]; simp
theorem digs_len (n : Nat) : ∀ u, u < 10 ^ (n + 1) → (digs u).length ≤ n + 1 := by
  induction n with
  | zero => intro u h; rw [digs_small u (by simpa using h)]; simp
  | succ n ih =>
    intro u h
    by_cases h' : u < 10
    · rw [digs_small u h']; simp
    · rw [digs_step u h']
      have := ih (u / 10) (by rw [Nat.pow_succ] at h; omega)
      simp only [List.length_append, List.length_cons, List.length_nil]
      omega
theorem nums_map (l : List UInt8) : strOfNums (l.map fun b => (b.toNat : Int)) = ⟨l.toArray⟩ := by
  unfold strOfNums
  congr 2
  rw [List.map_map]
  conv => rhs; rw [← List.map_id l]
  apply List.map_congr_left
  intro b _
  simp
theorem str_digs (u : Nat) : strOfNums (digs u) = ⟨(Lib.decDigits u).toArray⟩ := by
  unfold digs; exact nums_map _
theorem str_neg (u : Nat) : strOfNums (45 :: digs u) = ⟨(45 :: Lib.decDigits u).toArray⟩ := by
  unfold digs
  have := nums_map (45 :: Lib.decDigits u)
  rw [List.map_cons] at this
  exact this
/-- The end of the reference's rounds. -/
def fin (x0 : Int) (d : List Int) : ByteArray := if x0 < 0 then strOfNums (45 :: d) else strOfNums d
theorem dec_end (k : Nat) (x0 : Int) (x3 : List Int) (h3 : x3 ≠ []) (hl : x3.length ≤ 1000) : spec_l01Dec.l0 (k + 2) x0 x3 0 = some (fin x0 x3) := by
  simp only [spec_l01Dec.l0]
  have e : ¬ (x3.length : Int) = 0 := by
    intro h; apply h3; exact List.eq_nil_of_length_eq_zero (by omega)
  rw [if_neg e]
  have e0 : ((0 : Int) != 0) = false := rfl
  rw [e0]
  simp only [spec_l01Dec.j1]
  rw [if_neg (by decide)]
  unfold fin
  by_cases h : x0 < 0
  · rw [if_pos h, if_pos h]
    simp only [Option.bind_some]
    rw [if_pos (by simp only [List.length_cons, List.length_nil]; omega)]
    rfl
  · rw [if_neg h, if_neg h]
theorem tmod_sign (x : Int) (u : Nat) (h : x.natAbs = u) : (Int.tmod x 10 < 0 ∧ Int.tmod x 10 = -((u % 10 : Nat) : Int)) ∨ (¬ Int.tmod x 10 < 0 ∧ Int.tmod x 10 = ((u % 10 : Nat) : Int)) := by
  subst h
  rcases Int.natAbs_eq x with e | e
  · right
    have : Int.tmod x 10 = ((x.natAbs % 10 : Nat) : Int) := by
      conv => lhs; rw [e]
      exact (Int.ofNat_tmod x.natAbs 10).symm
    rw [this]; exact ⟨by omega, rfl⟩
  · have : Int.tmod x 10 = -((x.natAbs % 10 : Nat) : Int) := by
      conv => lhs; rw [e]
      rw [Int.neg_tmod]
      exact congrArg _ (Int.ofNat_tmod x.natAbs 10).symm
    by_cases h : x.natAbs % 10 = 0
    · right; rw [this, h]; exact ⟨by decide, by decide⟩
    · left; rw [this]; exact ⟨by omega, rfl⟩
theorem tdiv_abs (x : Int) : (Int.tdiv x 10).natAbs = x.natAbs / 10 := by
  rw [Int.natAbs_tdiv]; rfl
theorem dec_step (k : Nat) (x0 : Int) (x3 : List Int) (x4 : Int) (u : Nat) (hu : x4.natAbs = u) (hx : -9223372036854775808 ≤ x4 ∧ x4 ≤ 9223372036854775807) (h3 : x4 ≠ 0 ∨ x3 = []) (hl : x3.length ≤ 1000) :
    spec_l01Dec.l0 (k + 2) x0 x3 x4 = spec_l01Dec.l0 k x0 ((48 + ((u % 10 : Nat) : Int)) :: x3) (Int.tdiv x4 10) := by
  have hj : spec_l01Dec.l0 (k + 2) x0 x3 x4 = spec_l01Dec.j1 (k + 1) x0 x3 x4 true := by
    simp only [spec_l01Dec.l0]
    by_cases e : (x3.length : Int) = 0
    · rw [if_pos e]
    · rw [if_neg e]
      have : x4 ≠ 0 := by
        rcases h3 with h | h
        · exact h
        · subst h; simp at e
      rw [bne_iff_ne.mpr this]
  rw [hj]
  simp only [spec_l01Dec.j1]
  rw [if_pos trivial]
  have hdiv : wrap64 (Int.tdiv x4 10) = Int.tdiv x4 10 := by
    have h1 := tdiv_abs x4
    have h2 : x4.natAbs ≤ 9223372036854775808 := by omega
    unfold wrap64; omega
  rw [hdiv]
  have hm : u % 10 < 10 := Nat.mod_lt _ (by decide)
  rcases tmod_sign x4 u hu with ⟨hs, hv⟩ | ⟨hs, hv⟩
  · rw [if_pos hs]
    simp only [Option.bind_some]
    rw [if_pos (by simp only [List.length_cons, List.length_nil]; omega), hv]
    have : wrap64 (48 + wrap64 (- -((u % 10 : Nat) : Int))) % 256 = 48 + ((u % 10 : Nat) : Int) := by unfold wrap64; omega
    rw [this]; rfl
  · rw [if_neg hs]
    simp only [Option.bind_some]
    rw [if_pos (by simp only [List.length_cons, List.length_nil]; omega), hv]
    have : wrap64 (48 + ((u % 10 : Nat) : Int)) % 256 = 48 + ((u % 10 : Nat) : Int) := by unfold wrap64; omega
    rw [this]; rfl
theorem dec_loop (n : Nat) : ∀ (k u : Nat) (x0 : Int) (x3 : List Int) (x4 : Int), x4.natAbs = u → (-9223372036854775808 ≤ x4 ∧ x4 ≤ 9223372036854775807) → (x4 ≠ 0 ∨ x3 = []) → u < 10 ^ (n + 1) → x3.length + n ≤ 900 →
    spec_l01Dec.l0 (k + 2 + 2 * (n + 1)) x0 x3 x4 = some (fin x0 (digs u ++ x3)) := by
  induction n with
  | zero =>
    intro k u x0 x3 x4 hu hx h3 hn hl
    have hs : u < 10 := by simpa using hn
    rw [show k + 2 + 2 * (0 + 1) = (k + 2) + 2 by omega, dec_step (k + 2) x0 x3 x4 u hu hx h3 (by omega)]
    have h0 : Int.tdiv x4 10 = 0 := by have := tdiv_abs x4; omega
    rw [h0, dec_end k x0 _ (by simp) (by simp only [List.length_cons]; omega), digs_small u hs, Nat.mod_eq_of_lt hs]
    rfl
  | succ n ih =>
    intro k u x0 x3 x4 hu hx h3 hn hl
    by_cases hs : u < 10
    · rw [show k + 2 + 2 * (n + 1 + 1) = (k + 2 * (n + 1)) + 2 + 2 by omega, dec_step _ x0 x3 x4 u hu hx h3 (by omega)]
      have h0 : Int.tdiv x4 10 = 0 := by have := tdiv_abs x4; omega
      rw [h0, dec_end _ x0 _ (by simp) (by simp only [List.length_cons]; omega), digs_small u hs, Nat.mod_eq_of_lt hs]
      rfl
    · rw [show k + 2 + 2 * (n + 1 + 1) = (k + 2 + 2 * (n + 1)) + 2 by omega, dec_step _ x0 x3 x4 u hu hx h3 (by omega)]
      have ha := tdiv_abs x4
      have hn' : u / 10 < 10 ^ (n + 1) := by rw [Nat.pow_succ] at hn; exact Nat.div_lt_of_lt_mul (by rw [Nat.mul_comm]; exact hn)
      clear hn
      rw [ih k (u / 10) x0 _ (Int.tdiv x4 10) (by rw [ha, hu]) (by clear hn'; omega) (Or.inl (by clear hn'; intro h; rw [h] at ha; simp at ha; omega)) hn' (by simp only [List.length_cons]; omega), digs_step u hs, List.append_assoc]
      rfl
/-- The reference's decimal text is the library's. -/
theorem dec_f (k : Nat) (hk : 44 ≤ k) (x : Int) (hx : -9223372036854775808 ≤ x ∧ x ≤ 9223372036854775807) : spec_l01Dec.f k x = some ⟨(Lib.itoa x).toArray⟩ := by
  unfold spec_l01Dec.f
  obtain ⟨d, rfl⟩ : ∃ d, k = d + 2 + 2 * (19 + 1) := ⟨k - 42, by omega⟩
  have hn : x.natAbs < 10 ^ (19 + 1) := by
    have h1 : x.natAbs ≤ 9223372036854775808 := by omega
    exact Nat.lt_of_le_of_lt h1 (by decide)
  rw [dec_loop 19 d x.natAbs x [] x rfl hx (Or.inr rfl) hn (by decide), List.append_nil]
  clear hn
  unfold fin Lib.itoa
  by_cases h : x < 0
  · rw [if_pos h, if_pos h, str_neg]
  · rw [if_neg h, if_neg h, str_digs]
    have : x.toNat = x.natAbs := by omega
    rw [this]

abbrev inR (x : Int) : Prop := -1000000000000000 ≤ x ∧ x ≤ 1000000000000000
/-- A number's decimal text. -/
def T (x : Int) : ByteArray := ⟨(Lib.itoa x).toArray⟩
theorem itoa_len (x : Int) (h : inR x) : (Lib.itoa x).length ≤ 20 := by
  have hd : ∀ u : Nat, u ≤ 1000000000000000 → (Lib.decDigits u).length ≤ 18 := by
    intro u hu
    have := digs_len 17 u (Nat.lt_of_le_of_lt hu (by decide))
    unfold digs at this
    simpa using this
  unfold inR at h
  unfold Lib.itoa
  by_cases hx : x < 0
  · rw [if_pos hx]; have := hd x.natAbs (by omega); simp only [List.length_cons]; omega
  · rw [if_neg hx]; have := hd x.toNat (by omega); omega
theorem T_size (x : Int) (h : inR x) : (T x).size ≤ 20 := by
  have := itoa_len x h
  show ((Lib.itoa x).toArray).size ≤ 20
  simpa using this
theorem T_dec (k : Nat) (hk : 44 ≤ k) (x : Int) (h : inR x) : spec_l01Dec.f k x = some (T x) := dec_f k hk x (by unfold inR at h; omega)
theorem T_impl (k : Nat) (x : Int) (h : inR x) : impl_Decimal.f k x = some (T x) := by
  unfold impl_Decimal.f strconv_FormatInt_20.f
  rw [if_pos ⟨rfl, by unfold inR at h; omega⟩]
  rfl
theorem in_f (x : Int) : spec_l00In.f x (-1000000000000000) 1000000000000000 = some (decide (inR x)) := by
  unfold spec_l00In.f inR
  by_cases h : x ≥ -1000000000000000
  · rw [if_pos h]; simp [show -1000000000000000 ≤ x from h]
  · rw [if_neg h]; simp; omega
theorem isValue_f (x : Int) : impl_isValue.f x = some (decide (inR x)) := by
  unfold impl_isValue.f impl_within.f inR
  by_cases h : x ≥ -1000000000000000
  · rw [if_pos h]; simp [show -1000000000000000 ≤ x from h]
  · rw [if_neg h]; simp; omega

theorem mem_rd (x : List Int) (i : Int) (h0 : 0 ≤ i) (h : i < (x.length : Int)) : rd x i ∈ x := by
  have := rd_get x i h0 h
  exact List.mem_of_getElem? this
theorem drop_rd (x : List Int) (i : Int) (h0 : 0 ≤ i) (h : i < (x.length : Int)) : x.drop i.toNat = rd x i :: x.drop (i + 1).toNat := by
  have hl : i.toNat < x.length := by omega
  rw [List.drop_eq_getElem_cons hl, show (i + 1).toNat = i.toNat + 1 by omega]
  congr 1
  have := rd_get x i h0 h
  rw [List.getElem?_eq_getElem hl] at this
  exact Option.some.inj this
theorem values_loop (x : List Int) (hn : x.length ≤ 140737488351232) (d : Nat) : ∀ (k : Nat) (i : Int), 0 ≤ i → (x.length : Int) - i = d → d < k →
    ∃ b, spec_l01List.l0 k x i = some b ∧ impl_areValues.l0 k x x (x.length : Int) i = some b ∧ (b = true → x.length ≤ 64 ∧ ∀ y ∈ x.drop i.toNat, inR y) := by
  induction d with
  | zero =>
    intro k i h0 hd hk
    obtain ⟨k, rfl⟩ : ∃ m, k = m + 1 := ⟨k - 1, by omega⟩
    refine ⟨decide ((x.length : Int) ≤ 64), ?_, ?_, ?_⟩
    · simp only [spec_l01List.l0]; rw [if_neg (by omega)]
    · simp only [impl_areValues.l0]; rw [if_neg (by omega)]
    · intro h
      have := of_decide_eq_true h
      refine ⟨by omega, fun y hy => ?_⟩
      rw [List.drop_eq_nil_of_le (by omega)] at hy
      cases hy
  | succ d ih =>
    intro k i h0 hd hk
    obtain ⟨k, rfl⟩ : ∃ m, k = m + 1 := ⟨k - 1, by omega⟩
    have hw : wrap64 (i + 1) = i + 1 := wrap_up (n := x.length) h0 (by omega) hn
    by_cases hin : inR (rd x i)
    · obtain ⟨b, h1, h2, h3⟩ := ih k (i + 1) (by omega) (by omega) (by omega)
      refine ⟨b, ?_, ?_, ?_⟩
      · simp only [spec_l01List.l0]; rw [if_pos (by omega), if_pos h0, in_f, decide_eq_true hin]
        simp only [Option.bind_some, if_true]
        rw [hw]; exact h1
      · simp only [impl_areValues.l0]; rw [if_pos (by omega), if_pos h0, if_pos (by omega), isValue_f, decide_eq_true hin]
        simp only [Option.bind_some, if_true]
        rw [hw]; exact h2
      · intro hb
        refine ⟨(h3 hb).1, fun y hy => ?_⟩
        rw [drop_rd x i h0 (by omega)] at hy
        rcases List.mem_cons.1 hy with rfl | hy
        · exact hin
        · exact (h3 hb).2 y hy
    · refine ⟨false, ?_, ?_, fun h => by cases h⟩
      · simp only [spec_l01List.l0]; rw [if_pos (by omega), if_pos h0, in_f, decide_eq_false hin]; rfl
      · simp only [impl_areValues.l0]; rw [if_pos (by omega), if_pos h0, if_pos (by omega), isValue_f, decide_eq_false hin]; rfl
theorem app_data (a b : ByteArray) : (a ++ b).data = a.data ++ b.data := ByteArray.data_append
theorem text_loop (x : List Int) (hn : x.length ≤ 64) (hin : ∀ y ∈ x, inR y) (d : Nat) : ∀ (k : Nat) (i : Int) (a : ByteArray), 0 ≤ i → (x.length : Int) - i = d → d + 45 ≤ k → a.size + 22 * d ≤ 100000 →
    spec_l01Text.l0 k x a i = some ⟨a.data ++ (Lib.joinTail [44] ((x.drop i.toNat).map Lib.itoa)).toArray⟩ := by
  induction d with
  | zero =>
    intro k i a h0 hd hk ha
    obtain ⟨k, rfl⟩ : ∃ m, k = m + 1 := ⟨k - 1, by omega⟩
    simp only [spec_l01Text.l0]
    rw [if_neg (by omega), List.drop_eq_nil_of_le (by omega)]
    simp [Lib.joinTail]
  | succ d ih =>
    intro k i a h0 hd hk ha
    obtain ⟨k, rfl⟩ : ∃ m, k = m + 1 := ⟨k - 1, by omega⟩
    have hr := hin _ (mem_rd x i h0 (by omega))
    have hs := T_size _ hr
    have hz : ((⟨#[44]⟩ : ByteArray) ++ T (rd x i)).size = 1 + (T (rd x i)).size := by
      rw [ByteArray.size_append]; rfl
    simp only [spec_l01Text.l0]
    rw [if_pos (by omega), if_pos h0, T_dec k (by omega) _ hr]
    simp only [Option.bind_some]
    rw [if_pos (by omega), if_pos (by omega), wrap_up (n := x.length) h0 (by omega) (by omega), ih k (i + 1) _ (by omega) (by omega) (by omega) (by rw [ByteArray.size_append, hz]; omega)]
    rw [drop_rd x i h0 (by omega)]
    congr 2
    rw [app_data, app_data]
    simp [Lib.joinTail, T]
theorem tail_len (l : List Int) (h : ∀ y ∈ l, inR y) : (Lib.joinTail [44] (l.map Lib.itoa)).length ≤ 22 * l.length := by
  induction l with
  | nil => simp [Lib.joinTail]
  | cons a r ih =>
    have h1 := ih (fun y hy => h y (List.mem_cons_of_mem _ hy))
    have h2 := itoa_len a (h a List.mem_cons_self)
    have e : Lib.joinTail [44] ((a :: r).map Lib.itoa) = [44] ++ Lib.itoa a ++ Lib.joinTail [44] (r.map Lib.itoa) := by simp [Lib.joinTail]
    rw [e]
    simp only [List.length_append, List.length_cons, List.length_nil]
    omega
/-- The text of a list. -/
def text (x : List Int) : ByteArray := if x.length = 0 then ⟨#[110, 111, 110, 101]⟩ else ⟨(Lib.join (x.map Lib.itoa) [44]).toArray⟩
theorem specText_f (x : List Int) (hn : x.length ≤ 64) (hin : ∀ y ∈ x, inR y) (k : Nat) (hk : 200 ≤ k) : spec_l01Text.f k x = some (text x) := by
  unfold spec_l01Text.f text
  by_cases h : x.length = 0
  · rw [if_pos (by omega), if_pos h]
  · rw [if_neg (by omega), if_pos (by omega), if_neg h]
    have h0 := hin _ (mem_rd x 0 (by decide) (by omega))
    rw [T_dec k (by omega) _ h0]
    simp only [Option.bind_some]
    have hs := T_size _ h0
    rw [text_loop x hn hin (x.length - 1) k 1 _ (by decide) (by omega) (by omega) (by omega)]
    congr 2
    have e : x = rd x 0 :: x.drop 1 := by
      have := drop_rd x 0 (by decide) (by omega)
      simpa using this
    conv => rhs; rw [e]
    rw [List.map_cons, Lib.join_cons]
    simp [T]
theorem joined_f (xs : List Int) (hn : xs.length ≤ 64) (hin : ∀ y ∈ xs, inR y) (k : Nat) : impl_joined.f k (xs.map T) = some (text xs) := by
  unfold impl_joined.f text
  rw [List.length_map]
  by_cases h : xs.length = 0
  · rw [if_pos (by omega), if_pos h]
  · rw [if_neg (by omega), if_neg h]
    have em : (xs.map T).map (fun t => t.data.toList) = xs.map Lib.itoa := by
      rw [List.map_map]; apply List.map_congr_left; intro y _; simp [T]
    unfold strings_Join.f
    have ea : (⟨#[44]⟩ : ByteArray).data.toList = [44] := rfl
    rw [em, ea, List.length_map]
    have hl : (Lib.join (xs.map Lib.itoa) [44]).length ≤ 140737488355328 := by
      cases xs with
      | nil => simp at h
      | cons a r =>
        rw [List.map_cons, Lib.join_cons]
        have h1 := itoa_len a (hin a List.mem_cons_self)
        have h2 := tail_len r (fun y hy => hin y (List.mem_cons_of_mem _ hy))
        simp only [List.length_append, List.length_cons] at hn ⊢
        omega
    rw [if_pos ⟨by omega, hl⟩]
    rfl
theorem list_loop (x : List Int) (hn : x.length ≤ 64) (hin : ∀ y ∈ x, inR y) (d : Nat) : ∀ (k : Nat) (i : Int) (a : List Int), 0 ≤ i → (x.length : Int) - i = d → d < k → a ++ x.drop i.toNat = x →
    impl_listText.l0 k (a.map T) x (x.length : Int) i = some (text x) := by
  induction d with
  | zero =>
    intro k i a h0 hd hk ha
    obtain ⟨k, rfl⟩ : ∃ m, k = m + 1 := ⟨k - 1, by omega⟩
    simp only [impl_listText.l0]
    rw [List.drop_eq_nil_of_le (by omega), List.append_nil] at ha
    rw [if_neg (by omega), ha, joined_f x hn hin]
    rfl
  | succ d ih =>
    intro k i a h0 hd hk ha
    obtain ⟨k, rfl⟩ : ∃ m, k = m + 1 := ⟨k - 1, by omega⟩
    have hr := hin _ (mem_rd x i h0 (by omega))
    have hla : a.length ≤ 64 := by have := congrArg List.length ha; simp at this; omega
    simp only [impl_listText.l0]
    rw [if_pos (by omega), if_pos h0, if_pos (by omega), T_impl k _ hr]
    simp only [Option.bind_some]
    rw [if_pos (by rw [List.length_map]; omega), wrap_up (n := x.length) h0 (by omega) (by omega)]
    have := ih k (i + 1) (a ++ [rd x i]) (by omega) (by omega) (by omega) (by rw [List.append_assoc, List.singleton_append, ← drop_rd x i h0 (by omega)]; exact ha)
    rw [List.map_append] at this
    exact this
/-- Both answers are one. -/
theorem both_f (x : List Int) (hn : x.length ≤ 1048576) (k : Nat) (hk : x.length + 200 ≤ k) : ∃ r, spec_ListText.f k x = some r ∧ impl_ListText.f k x = some r := by
  obtain ⟨b, h1, h2, h3⟩ := values_loop x (by omega) x.length k 0 (by omega) (by omega) (by omega)
  unfold spec_ListText.f impl_ListText.f spec_l01List.f impl_areValues.f
  rw [h1, h2]
  simp only [Option.bind_some]
  cases b with
  | false => exact ⟨_, rfl, rfl⟩
  | true =>
    obtain ⟨hl, hin⟩ := h3 rfl
    simp only [Int.toNat_zero, List.drop_zero] at hin
    refine ⟨(text x, true), ?_, ?_⟩
    · rw [if_pos rfl, specText_f x hl hin k (by omega)]; rfl
    · rw [if_pos rfl]
      unfold impl_listText.f
      rw [show ([] : List ByteArray) = ([] : List Int).map T from rfl, list_loop x hl hin x.length k 0 [] (by omega) (by omega) (by omega) (by simp)]
      rfl

end FnExactListTextParts
open FnExactListTextParts

theorem FnExactListText (l0 : List Int) : ∃ k, laws_FnExactListText.f k l0 = some true := by
  refine ⟨l0.length + 300, ?_⟩
  unfold laws_FnExactListText.f
  by_cases h : (l0.length : Int) > 1048576
  · rw [if_pos h]
  · rw [if_neg h]
    obtain ⟨⟨t, b⟩, h1, h2⟩ := both_f l0 (by omega) (l0.length + 300) (by omega)
    rw [copy_f l0 (by omega) _ (by omega)]
    simp only [Option.bind_some]
    rw [h1]
    simp only [Option.bind_some]
    rw [h2]
    simp only [Option.bind_some, if_true, bne_self_eq_false]
    simp only [laws_FnExactListText.j0]
    rw [copy_f l0 (by omega) _ (by omega)]
    simp only [Option.bind_some]
    rw [eq_f l0 (by omega) _ (by omega)]
    rfl

/-- The walk, joined with the plain law. -/
theorem listTextWalk (a0 : Option Addr) (len0 cap0 : Nat) (z0 : List Int) (w : World) (w0 : (a0 = none ∧ len0 = 0 ∧ cap0 = 0 ∧ z0 = []) ∨ ∃ x, a0 = some x ∧ len0 ≤ cap0 ∧ cap0 ≤ maxLen ∧ z0.length = cap0 ∧ (∀ i, i < z0.length → w.cell? (x.add i) = some (.int .i64 (z0.getD i 0))) ∧ ∀ n ∈ z0, (Lit.int .i64 n).wf = true) (ht : Go.Proofs.YtdklgllbemiicaaDoor.Tb.TB w) :
    Calls Tryd.prog 4 #[.slice a0 len0 cap0] w fun e w' => e = .returned (.bool true) ∧ Below w.heap.size w w' := by
  obtain ⟨l0, rfl, hr0, hm0, hw0, hc0⟩ := ReadsInt.ofRowC w0
  obtain ⟨k, h⟩ := FnExactListText l0
  exact laws_FnExactListText.calls k _ _ l0 true w ht (Kd.C_of_reads (d := (0 : Int)) (h1 := fun _ => rfl) hr0) hc0 h

end Go.Proofs.YtdklgllbemiicaaDoor.Pure
