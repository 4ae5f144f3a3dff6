/- The plain law of FnExactNumbersText, over the functions beside: program and reference answer alike. No condition beyond the stated bounds. -/
import Derived.Test.YtpfjcfhgckpjmaaDoorQFnExactNumbersTextx2
namespace Go.Proofs.YtpfjcfhgckpjmaaDoor.Pure
open Go.RowKit Go.Proofs.YtpfjcfhgckpjmaaDoor.QFnExactNumbersText Go.Proofs.YtpfjcfhgckpjmaaDoorW.PrintWords Go.Proofs.YtpfjcfhgckpjmaaDoorW.PrintLast
set_option linter.unusedSimpArgs false
set_option linter.unusedVariables false

namespace FnExactNumbersTextParts
theorem rd_get (x : List Int) (i : Int) (h0 : 0 ≤ i) (h : i < (x.length : Int)) : x[i.toNat]? = some (rd x i) := by
  unfold rd
  rw [List.getD_eq_getElem?_getD, List.getElem?_eq_getElem (by omega)]
  rfl

theorem wrap_up {i : Int} {n : Nat} (h0 : 0 ≤ i) (h : i < (n : Int)) (hn : n ≤ 140737488351232) : wrap64 (i + 1) = i + 1 := by
  unfold wrap64; omega

theorem copy_loop (x0 : List Int) (hn : x0.length ≤ 140737488351232) (d : Nat) : ∀ (k : Nat) (x3 : List Int) (i : Int), 0 ≤ i → (x0.length : Int) - i = d → x3.length = x0.length →
    (∀ j : Nat, (j : Int) < i → x3[j]? = x0[j]?) → d < k → laws_toFloat32S.l0 k x0 x3 i = some x0 := by
  induction d with
  | zero =>
    intro k x3 i h0 hd hl hj hk
    obtain ⟨k, rfl⟩ : ∃ m, k = m + 1 := ⟨k - 1, by omega⟩
    simp only [laws_toFloat32S.l0]
    rw [if_neg (by omega)]
    congr 1
    apply List.ext_getElem?
    intro j
    by_cases h : (j : Int) < i
    · exact hj j h
    · rw [List.getElem?_eq_none (by omega), List.getElem?_eq_none (by omega)]
  | succ d ih =>
    intro k x3 i h0 hd hl hj hk
    obtain ⟨k, rfl⟩ : ∃ m, k = m + 1 := ⟨k - 1, by omega⟩
    simp only [laws_toFloat32S.l0]
    rw [if_pos (by omega), if_pos h0, if_pos (by omega), wrap_up (n := x0.length) h0 (by omega) hn]
    refine ih k _ (i + 1) (by omega) (by omega) (by simpa using hl) ?_ (by omega)
    intro j hlt
    rw [List.getElem?_set]
    by_cases h : i.toNat = j
    · subst h
      rw [if_pos rfl, if_pos (by omega), rd_get x0 i h0 (by omega)]
    · rw [if_neg h]
      exact hj j (by omega)

theorem copy_f (x0 : List Int) (hn : x0.length ≤ 1048576) (k : Nat) (hk : x0.length < k) : laws_toFloat32S.f k x0 = some x0 := by
  unfold laws_toFloat32S.f
  rw [if_pos (by omega), if_pos (by omega)]
  exact copy_loop x0 (by omega) x0.length k _ 0 (by omega) (by omega) (by simp) (by intro j h; omega) hk

theorem same_f (a : Int) : laws_sameFloat.f a a = some true := by unfold laws_sameFloat.f; rw [if_pos rfl]

theorem eq_loop (x0 : List Int) (hn : x0.length ≤ 140737488351232) (d : Nat) : ∀ (k : Nat) (i : Int), 0 ≤ i → (x0.length : Int) - i = d → d < k → laws_eqFloat32S.l0 k x0 x0 i = some true := by
  induction d with
  | zero =>
    intro k i h0 hd hk
    obtain ⟨k, rfl⟩ : ∃ m, k = m + 1 := ⟨k - 1, by omega⟩
    simp only [laws_eqFloat32S.l0]
    rw [if_neg (by omega)]
  | succ d ih =>
    intro k i h0 hd hk
    obtain ⟨k, rfl⟩ : ∃ m, k = m + 1 := ⟨k - 1, by omega⟩
    simp only [laws_eqFloat32S.l0]
    rw [if_pos (by omega), if_pos h0, if_pos (by omega), same_f]
    simp only [Option.bind_some, if_true]
    rw [show wrap64 (i + 1) = i + 1 by unfold wrap64; omega]
    exact ih k (i + 1) (by omega) (by omega) (by omega)

theorem eq_f (x0 : List Int) (hn : x0.length ≤ 140737488351232) (k : Nat) (hk : x0.length < k) : laws_eqFloat32S.f k x0 x0 = some true := by
  unfold laws_eqFloat32S.f
  rw [if_pos rfl]
  exact eq_loop x0 hn x0.length k 0 (by omega) (by omega) hk

open Go.Proofs.YtpfjcfhgckpjmaaDoor.Ft Go.Proofs.YtpfjcfhgckpjmaaDoor.Hx Go.Fl Ieee
/-- The bits of a single. -/
abbrev okF (x : Int) : Prop := 0 ≤ x ∧ x < 4294967296
/-- A number's bits: one of the many of no number. -/
def nbits (x : Int) : Nat := (bitsV (val .f32 x.toNat)).toNat
theorem bitsV_range (b : Nat) (h : b < 4294967296) : 0 ≤ bitsV (val .f32 b) ∧ bitsV (val .f32 b) < 4294967296 := by
  by_cases hn : FloatKind.f32.format.nan b = true
  · rw [val_nan hn]; decide
  · rw [val_num (by simpa using hn)]
    show 0 ≤ ((b : Nat) : Int) ∧ ((b : Nat) : Int) < 4294967296
    omega
theorem nbits_lt (x : Int) (h : okF x) : nbits x < 4294967296 := by have := bitsV_range x.toNat (by unfold okF at h; omega); unfold nbits; omega
theorem bits_f (x : Int) (h : okF x) : spec_l01Bits.f x = some (nbits x : Int) := by
  unfold spec_l01Bits.f nbits
  rw [if_pos h, Int.toNat_of_nonneg (bitsV_range x.toNat (by unfold okF at h; omega)).1]
theorem bitsI_f (x : Int) (h : okF x) : impl_BitsOf.f x = some (nbits x : Int) := by
  unfold impl_BitsOf.f nbits
  rw [if_pos h, Int.toNat_of_nonneg (bitsV_range x.toNat (by unfold okF at h; omega)).1]
/-- k hexadecimal digits. -/
def hexK : Nat → Nat → List UInt8
  | 0, _ => []
  | k + 1, n => hexK k (n / 16) ++ [hexd (n % 16)]
theorem hexK_len (k : Nat) : ∀ n, (hexK k n).length = k := by
  induction k with
  | zero => intro n; rfl
  | succ k ih => intro n; unfold hexK; rw [List.length_append, ih]; rfl
theorem hexK_zero (k : Nat) : hexK k 0 = List.replicate k 48 := by
  induction k with
  | zero => rfl
  | succ k ih =>
    unfold hexK
    rw [Nat.zero_div, Nat.zero_mod, ih, List.replicate_succ']
    rfl
theorem hex_pad (k : Nat) : ∀ n, n < 16 ^ (k + 1) → List.replicate (k + 1 - (hexDigits n).length) 48 ++ hexDigits n = hexK (k + 1) n := by
  induction k with
  | zero =>
    intro n h
    have h' : n < 16 := by simpa using h
    rw [hexDigits_small n h']
    unfold hexK hexK
    rw [Nat.mod_eq_of_lt h']
    rfl
  | succ k ih =>
    intro n h
    by_cases hs : n < 16
    · rw [hexDigits_small n hs]
      unfold hexK
      rw [Nat.div_eq_of_lt hs, hexK_zero, Nat.mod_eq_of_lt hs]
      rfl
    · have hq : n / 16 < 16 ^ (k + 1) := by rw [Nat.div_lt_iff_lt_mul (by decide)]; rw [← Nat.pow_succ]; exact h
      have hl := hexDigits_len k (n / 16) hq
      rw [hexDigits_big n (by omega), List.length_append, List.length_singleton]
      rw [show k + 1 + 1 - ((hexDigits (n / 16)).length + 1) = k + 1 - (hexDigits (n / 16)).length by omega, ← List.append_assoc, ih (n / 16) hq]
      conv => rhs; unfold hexK
/-- The text of a number. -/
def T (x : Int) : ByteArray := ⟨(hexK 8 (nbits x)).toArray⟩
theorem T_list (x : Int) : (T x).data.toList = hexK 8 (nbits x) := by simp [T]
theorem T_size (x : Int) : (T x).size = 8 := by
  rw [Lib.size_eq, T_list, hexK_len]
theorem rep_one (c : Nat) : Lib.repeatL [48] c = List.replicate c 48 := by
  induction c with
  | zero => rfl
  | succ c ih => rw [List.replicate_succ, ← ih]; rfl
theorem w8 (q : Nat) (h : q ≤ 8) : wrap64 (8 - (q : Int)) = ((8 - q : Nat) : Int) := by unfold wrap64; omega
theorem le8 (q : Nat) (h : q ≤ 8) : 8 - q + q ≤ 9223372036854775807 := by omega
theorem p16 : (16 : Nat) ^ (7 + 1) = 4294967296 := rfl
theorem fmt_f (n : Nat) (h : n < 4294967296) : strconv_FormatInt_31.f (n : Int) 16 = some ⟨(hexDigits n).toArray⟩ := by
  unfold strconv_FormatInt_31.f
  rw [if_pos ⟨rfl, by omega, by omega⟩, Int.toNat_natCast]
theorem rep_f (c : Nat) (h : c ≤ 8) : strings_Repeat.f ⟨#[48]⟩ (c : Int) = some ⟨(List.replicate c 48).toArray⟩ := by
  unfold strings_Repeat.f
  have h1 : (⟨#[48]⟩ : ByteArray).size = 1 := rfl
  rw [if_pos ⟨h1, by omega, by omega⟩, Int.toNat_natCast, rep_one]
theorem join_hex (n : Nat) (h : n < 4294967296) : (⟨(List.replicate (8 - (hexDigits n).length) 48).toArray⟩ : ByteArray) ++ ⟨(hexDigits n).toArray⟩ = ⟨(hexK 8 n).toArray⟩ := by
  apply Go.WideShapes.bytes_inj
  rw [ByteArray.data_append]
  show ((List.replicate (8 - (hexDigits n).length) 48).toArray ++ (hexDigits n).toArray).toList = (hexK 8 n).toArray.toList
  rw [Array.toList_append, List.toList_toArray, List.toList_toArray, List.toList_toArray]
  exact hex_pad 7 n (by rw [p16]; exact h)
theorem size_list (l : List UInt8) : (⟨l.toArray⟩ : ByteArray).size = l.length := by rw [Lib.size_eq]
theorem len8 (n : Nat) (h : n < 4294967296) : (hexDigits n).length ≤ 8 := hexDigits_len 7 n (by rw [p16]; exact h)
theorem bind_is {α β : Type} {o : Option α} {a : α} (h : o = some a) (f : α → Option β) : o.bind f = f a := by rw [h]; rfl
theorem T_hex (n : Nat) (h : n < 4294967296) : ((strconv_FormatInt_31.f (n : Int) 16).bind fun t148 => ((strings_Repeat.f (⟨#[48]⟩ : ByteArray) (wrap64 (8 - (t148.size : Int)))).bind fun t149 => (if t149.size + t148.size ≤ 9223372036854775807 then (some (t149 ++ t148)) else (none)))) = some (⟨(hexK 8 n).toArray⟩ : ByteArray) := by
  rw [fmt_f _ h]
  simp only [Option.bind_some]
  rw [size_list, w8 _ (len8 n h), rep_f _ (Nat.sub_le _ _)]
  simp only [Option.bind_some]
  rw [size_list, List.length_replicate, join_hex _ h, if_pos (le8 _ (len8 n h))]
theorem T_is (x : Int) : impl_hexOf.f x = (impl_BitsOf.f x).bind fun t147 => ((strconv_FormatInt_31.f t147 16).bind fun t148 => ((strings_Repeat.f (⟨#[48]⟩ : ByteArray) (wrap64 (8 - (t148.size : Int)))).bind fun t149 => (if t149.size + t148.size ≤ 9223372036854775807 then (some (t149 ++ t148)) else (none)))) := rfl
theorem T_impl (x : Int) (h : okF x) : impl_hexOf.f x = some (T x) :=
  (T_is x).trans ((bind_is (bitsI_f x h) _).trans (T_hex (nbits x) (nbits_lt x h)))
theorem and_i64 (a : Nat) (ha : a < 4294967296) : Go.bits .and .i64 (a : Int) 15 = ((a % 16 : Nat) : Int) := by
  have h1 : (BitVec.ofInt 64 (a : Int)).toNat = a := by
    rw [BitVec.ofInt_natCast, BitVec.toNat_ofNat]; exact Nat.mod_eq_of_lt (by omega)
  have h2 : (BitVec.ofInt 64 15).toNat = 15 := by decide
  have hx : a &&& 15 = a % 16 := Nat.and_two_pow_sub_one_eq_mod a 4
  show IntKind.i64.wrap ((BitVec.ofInt 64 (a : Int) &&& BitVec.ofInt 64 15).toNat : Int) = _
  rw [BitVec.toNat_and, h1, h2, hx]
  simp only [IntKind.wrap, IntKind.bits, IntKind.signed]
  have : a % 16 < 16 := Nat.mod_lt _ (by decide)
  generalize a % 16 = q at this
  simp
  omega
theorem digit_at (d : Nat) (h : d < 16) : bt (⟨#[48, 49, 50, 51, 52, 53, 54, 55, 56, 57, 97, 98, 99, 100, 101, 102]⟩ : ByteArray) (d : Int) = ((hexd d).toNat : Int) := by
  match d, h with
  | 0, _ => rfl
  | 1, _ => rfl
  | 2, _ => rfl
  | 3, _ => rfl
  | 4, _ => rfl
  | 5, _ => rfl
  | 6, _ => rfl
  | 7, _ => rfl
  | 8, _ => rfl
  | 9, _ => rfl
  | 10, _ => rfl
  | 11, _ => rfl
  | 12, _ => rfl
  | 13, _ => rfl
  | 14, _ => rfl
  | 15, _ => rfl
  | k + 16, hk => exact absurd hk (by omega)
theorem nums_map (l : List UInt8) : strOfNums (l.map fun b => (b.toNat : Int)) = ⟨l.toArray⟩ := by
  unfold strOfNums
  congr 2
  rw [List.map_map]
  conv => rhs; rw [← List.map_id l]
  apply List.map_congr_left
  intro b _
  simp
/-- One round of the reference's digits. -/
theorem hex_round (n : Nat) (hn : n < 4294967296) (j : Nat) (hj : j < 8) (k : Nat) (l : List UInt8) (hl : l.length ≤ 100) :
    spec_l01Hex.l0 (k + 1) (n : Int) (l.map fun b => (b.toNat : Int)) ((4 * j : Nat) : Int) = spec_l01Hex.l0 k (n : Int) ((l ++ [hexd (n / 16 ^ j % 16)]).map fun b => (b.toNat : Int)) (4 * (j : Int) - 4) := by
  have hsh : shr .i64 (n : Int) (IntKind.u64.wrap ((4 * j : Nat) : Int)) = ((n / 16 ^ j : Nat) : Int) := by
    rw [IntKind.wrap_u64, show ((4 * j : Nat) : Int) % 18446744073709551616 = ((4 * j : Nat) : Int) by omega]
    unfold shr
    have h1 : (2 : Nat) ^ (4 * j) = 16 ^ j := by rw [Nat.pow_mul]
    have h2 : (2 : Int) ^ (4 * j) = ((16 ^ j : Nat) : Int) := by rw [← h1, Int.natCast_pow]; rfl
    rw [Int.toNat_natCast, show min (4 * j) IntKind.i64.bits = 4 * j from Nat.min_eq_left (by show 4 * j ≤ 64; omega), h2, Int.natCast_ediv]
  have hq : n / 16 ^ j < 4294967296 := Nat.lt_of_le_of_lt (Nat.div_le_self _ _) hn
  simp only [spec_l01Hex.l0]
  rw [hsh, and_i64 _ hq]
  have hm : n / 16 ^ j % 16 < 16 := Nat.mod_lt _ (by decide)
  rw [digit_at _ hm]
  generalize n / 16 ^ j % 16 = q at *
  have c1 : (0 : Int) ≤ IntKind.u64.wrap ((4 * j : Nat) : Int) := by rw [IntKind.wrap_u64]; omega
  rw [if_pos (by omega), if_pos c1, if_pos (by omega), if_pos (by omega), if_pos (by rw [List.length_map]; omega), show wrap64 (((4 * j : Nat) : Int) - 4) = 4 * (j : Int) - 4 by unfold wrap64; omega, List.map_append]
  rfl
theorem hexK_top (j : Nat) : ∀ n, hexK (j + 1) n = hexd (n / 16 ^ j % 16) :: hexK j n := by
  induction j with
  | zero =>
    intro n
    show [] ++ [hexd (n % 16)] = [hexd (n / 1 % 16)]
    rw [Nat.div_one]; rfl
  | succ j ih =>
    intro n
    have e : hexK (j + 1 + 1) n = hexK (j + 1) (n / 16) ++ [hexd (n % 16)] := rfl
    rw [e, ih (n / 16), Nat.div_div_eq_div_mul, Nat.pow_succ, Nat.mul_comm (16 ^ j) 16]
    rfl
theorem hex_loop (n : Nat) (hn : n < 4294967296) (j : Nat) : ∀ (k : Nat) (l : List UInt8), j ≤ 8 → l.length + j ≤ 100 →
    spec_l01Hex.l0 (k + j + 1) (n : Int) (l.map fun b => (b.toNat : Int)) (4 * (j : Int) - 4) = some ⟨(l ++ hexK j n).toArray⟩ := by
  induction j with
  | zero =>
    intro k l _ _
    show spec_l01Hex.l0 (k + 1) (n : Int) (l.map fun b => (b.toNat : Int)) (4 * ((0 : Nat) : Int) - 4) = _
    simp only [spec_l01Hex.l0]
    rw [if_neg (by omega), nums_map]
    show some (⟨l.toArray⟩ : ByteArray) = some ⟨(l ++ []).toArray⟩
    rw [List.append_nil]
  | succ j ih =>
    intro k l hj hl
    have e : 4 * ((j + 1 : Nat) : Int) - 4 = ((4 * j : Nat) : Int) := by omega
    rw [e, show k + (j + 1) + 1 = (k + j + 1) + 1 by omega, hex_round n hn j (by omega) _ l (by omega), ih k _ (by omega) (by rw [List.length_append, List.length_singleton]; omega), hexK_top, List.append_assoc]
    rfl
theorem T_spec (x : Int) (h : okF x) (k : Nat) (hk : 20 ≤ k) : spec_l01Hex.f k x = some (T x) := by
  have := hex_loop (nbits x) (nbits_lt x h) 8 (k - 9) [] (by decide) (by simp)
  rw [show k - 9 + 8 + 1 = k by omega] at this
  unfold spec_l01Hex.f
  rw [bind_is (bits_f x h)]
  exact this
/-- A list of singles' bits. -/
abbrev okL (l : List Int) : Prop := ∀ x ∈ l, okF x
theorem mem_rd (x : List Int) (i : Int) (h0 : 0 ≤ i) (h : i < (x.length : Int)) : rd x i ∈ x := by
  have := rd_get x i h0 h
  exact List.mem_of_getElem? this
theorem drop_rd (x : List Int) (i : Int) (h0 : 0 ≤ i) (h : i < (x.length : Int)) : x.drop i.toNat = rd x i :: x.drop (i + 1).toNat := by
  have hl : i.toNat < x.length := by omega
  rw [List.drop_eq_getElem_cons hl, show (i + 1).toNat = i.toNat + 1 by omega]
  congr 1
  have := rd_get x i h0 h
  rw [List.getElem?_eq_getElem hl] at this
  exact Option.some.inj this
def H (x : Int) : List UInt8 := hexK 8 (nbits x)
theorem app_data (a b : ByteArray) : (a ++ b).data = a.data ++ b.data := ByteArray.data_append
theorem text_loop (x : List Int) (hn : x.length ≤ 256) (hin : okL x) (d : Nat) : ∀ (k : Nat) (i : Int) (a : ByteArray), 0 ≤ i → (x.length : Int) - i = d → d + 45 ≤ k → a.size + 22 * d ≤ 100000 →
    spec_l01NText.l0 k x a i = some ⟨a.data ++ (Lib.joinTail [44] ((x.drop i.toNat).map H)).toArray⟩ := by
  induction d with
  | zero =>
    intro k i a h0 hd hk ha
    obtain ⟨k, rfl⟩ : ∃ m, k = m + 1 := ⟨k - 1, by omega⟩
    simp only [spec_l01NText.l0]
    rw [if_neg (by omega), List.drop_eq_nil_of_le (by omega)]
    simp [Lib.joinTail]
  | succ d ih =>
    intro k i a h0 hd hk ha
    obtain ⟨k, rfl⟩ : ∃ m, k = m + 1 := ⟨k - 1, by omega⟩
    have hr := hin _ (mem_rd x i h0 (by omega))
    have hs := T_size (rd x i)
    have hz : ((⟨#[44]⟩ : ByteArray) ++ T (rd x i)).size = 1 + (T (rd x i)).size := by
      rw [ByteArray.size_append]; rfl
    simp only [spec_l01NText.l0]
    rw [if_pos (by omega), if_pos h0, T_spec _ hr k (by omega)]
    simp only [Option.bind_some]
    rw [if_pos (by omega), if_pos (by omega), wrap_up (n := x.length) h0 (by omega) (by omega), ih k (i + 1) _ (by omega) (by omega) (by omega) (by rw [ByteArray.size_append, hz]; omega)]
    rw [drop_rd x i h0 (by omega)]
    congr 2
    rw [app_data, app_data]
    simp [Lib.joinTail, T, H]
theorem H_len (x : Int) : (H x).length = 8 := hexK_len 8 _
theorem tail_len (l : List Int) : (Lib.joinTail [44] (l.map H)).length ≤ 22 * l.length := by
  induction l with
  | nil => simp [Lib.joinTail]
  | cons a r ih =>
    have h2 := H_len a
    have e : Lib.joinTail [44] ((a :: r).map H) = [44] ++ H a ++ Lib.joinTail [44] (r.map H) := by simp [Lib.joinTail]
    rw [e]
    simp only [List.length_append, List.length_cons, List.length_nil]
    omega
/-- The text of a list. -/
def text (x : List Int) : ByteArray := if x.length = 0 then ⟨#[110, 111, 110, 101]⟩ else ⟨(Lib.join (x.map H) [44]).toArray⟩
theorem specText_f (x : List Int) (hn : x.length ≤ 256) (hin : okL x) (k : Nat) (hk : 400 ≤ k) : spec_l01NText.f k x = some (text x) := by
  unfold spec_l01NText.f text
  by_cases h : x.length = 0
  · rw [if_pos (by omega), if_pos h]
  · rw [if_neg (by omega), if_pos (by omega), if_neg h]
    have h0 := hin _ (mem_rd x 0 (by decide) (by omega))
    rw [T_spec _ h0 k (by omega)]
    simp only [Option.bind_some]
    have hs := T_size (rd x 0)
    rw [text_loop x hn hin (x.length - 1) k 1 _ (by decide) (by omega) (by omega) (by omega)]
    congr 2
    have e : x = rd x 0 :: x.drop 1 := by
      have := drop_rd x 0 (by decide) (by omega)
      simpa using this
    conv => rhs; rw [e]
    rw [List.map_cons, Lib.join_cons]
    simp [T, H]
theorem joined_f (xs : List Int) (hn : xs.length ≤ 256) : impl_joined.f (xs.map T) = some (text xs) := by
  unfold impl_joined.f text
  rw [List.length_map]
  by_cases h : xs.length = 0
  · rw [if_pos (by omega), if_pos h]
  · rw [if_neg (by omega), if_neg h]
    have em : (xs.map T).map (fun t => t.data.toList) = xs.map H := by
      rw [List.map_map]; apply List.map_congr_left; intro y _; simp [T, H]
    unfold strings_Join.f
    have ea : (⟨#[44]⟩ : ByteArray).data.toList = [44] := rfl
    rw [em, ea, List.length_map]
    have hl : (Lib.join (xs.map H) [44]).length ≤ 140737488355328 := by
      cases xs with
      | nil => simp at h
      | cons a r =>
        rw [List.map_cons, Lib.join_cons]
        have h1 := H_len a
        have h2 := tail_len r
        simp only [List.length_append, List.length_cons] at hn ⊢
        omega
    rw [if_pos ⟨by omega, hl⟩]
    rfl
theorem list_loop (x : List Int) (hn : x.length ≤ 256) (hin : okL x) (d : Nat) : ∀ (k : Nat) (i : Int) (a : List Int), 0 ≤ i → (x.length : Int) - i = d → d < k → a ++ x.drop i.toNat = x →
    impl_NumbersText.l0 k (a.map T) x (x.length : Int) i = some (text x, true) := by
  induction d with
  | zero =>
    intro k i a h0 hd hk ha
    obtain ⟨k, rfl⟩ : ∃ m, k = m + 1 := ⟨k - 1, by omega⟩
    simp only [impl_NumbersText.l0]
    rw [List.drop_eq_nil_of_le (by omega), List.append_nil] at ha
    rw [if_neg (by omega), ha, joined_f x hn]
    rfl
  | succ d ih =>
    intro k i a h0 hd hk ha
    obtain ⟨k, rfl⟩ : ∃ m, k = m + 1 := ⟨k - 1, by omega⟩
    have hr := hin _ (mem_rd x i h0 (by omega))
    have hla : a.length ≤ 256 := by have := congrArg List.length ha; simp at this; omega
    simp only [impl_NumbersText.l0]
    rw [if_pos (by omega), if_pos h0, if_pos (by omega), T_impl _ hr]
    simp only [Option.bind_some]
    rw [if_pos (by rw [List.length_map]; omega), wrap_up (n := x.length) h0 (by omega) (by omega)]
    have := ih k (i + 1) (a ++ [rd x i]) (by omega) (by omega) (by omega) (by rw [List.append_assoc, List.singleton_append, ← drop_rd x i h0 (by omega)]; exact ha)
    rw [List.map_append] at this
    exact this
/-- What both answer. -/
def answer (x : List Int) : ByteArray × Bool := if x.length ≤ 256 then (text x, true) else (⟨#[]⟩, false)
theorem spec_NT (x : List Int) (hin : okL x) (k : Nat) (hk : 400 ≤ k) : spec_NumbersText.f k x = some (answer x) := by
  unfold spec_NumbersText.f spec_l01Few.f answer
  simp only [Option.bind_some]
  by_cases h : x.length ≤ 256
  · rw [decide_eq_true (show (x.length : Int) ≤ 256 by omega), if_pos rfl, if_pos h, specText_f x h hin k hk]
    rfl
  · rw [decide_eq_false (show ¬ (x.length : Int) ≤ 256 by omega), if_neg (by decide), if_neg h]
theorem impl_NT (x : List Int) (hin : okL x) (k : Nat) (hk : 400 ≤ k) : impl_NumbersText.f k x = some (answer x) := by
  unfold impl_NumbersText.f answer
  by_cases h : x.length ≤ 256
  · rw [if_neg (by omega), if_pos h]
    exact list_loop x h hin x.length k 0 [] (by omega) (by omega) (by omega) (by simp)
  · rw [if_pos (by omega), if_neg h]

end FnExactNumbersTextParts
open FnExactNumbersTextParts

open Go.Proofs.YtpfjcfhgckpjmaaDoor.Ft
theorem FnExactNumbersText (l0 : List Int) (hin : okL l0) : ∃ k, laws_FnExactNumbersText.f k l0 = some true := by
  refine ⟨l0.length + 500, ?_⟩
  unfold laws_FnExactNumbersText.f
  by_cases h : (l0.length : Int) > 1048576
  · rw [if_pos h]
  · rw [if_neg h]
    rw [copy_f l0 (by omega) _ (by omega)]
    simp only [Option.bind_some]
    rw [spec_NT l0 hin _ (by omega)]
    simp only [Option.bind_some]
    rw [impl_NT l0 hin _ (by omega)]
    simp only [Option.bind_some, if_true, bne_self_eq_false]
    simp only [laws_FnExactNumbersText.j0]
    rw [copy_f l0 (by omega) _ (by omega)]
    simp only [Option.bind_some]
    rw [eq_f l0 (by omega) _ (by omega)]
    rfl

/-- The walk, joined with the plain law. -/
theorem numbersTextWalk (A : Option Addr) (c : Nat) (l : List Int) (w : World) (hr : Kf.C w A l.length l) (hc : l.length ≤ c) (hin : okL l) (ht : Go.Proofs.YtpfjcfhgckpjmaaDoor.Hb.HT w) :
    Calls Tryd.prog 3 #[.slice A l.length c] w fun e w' => e = .returned (.bool true) ∧ Below w.heap.size w w' := by
  obtain ⟨k, h⟩ := FnExactNumbersText l hin
  exact laws_FnExactNumbersText.calls k _ _ l true w ht hr hc h

end Go.Proofs.YtpfjcfhgckpjmaaDoor.Pure
