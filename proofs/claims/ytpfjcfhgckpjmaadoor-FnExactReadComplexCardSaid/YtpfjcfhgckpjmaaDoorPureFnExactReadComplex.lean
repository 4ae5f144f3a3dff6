/- The plain law of FnExactReadComplex, over the functions beside: program and reference answer alike. No condition beyond the stated bounds. -/
import Derived.Test.YtpfjcfhgckpjmaaDoorQFnExactReadComplexx6
namespace Go.Proofs.YtpfjcfhgckpjmaaDoor.Pure
open Go.RowKit Go.Proofs.YtpfjcfhgckpjmaaDoor.QFnExactReadComplex Go.Proofs.YtpfjcfhgckpjmaaDoorW.PrintWords Go.Proofs.YtpfjcfhgckpjmaaDoorW.PrintLast
set_option linter.unusedSimpArgs false
set_option linter.unusedVariables false

namespace FnExactReadComplexParts
theorem rd_get (x : List Int) (i : Int) (h0 : 0 ≤ i) (h : i < (x.length : Int)) : x[i.toNat]? = some (rd x i) := by
  unfold rd
  rw [List.getD_eq_getElem?_getD, List.getElem?_eq_getElem (by omega)]
  rfl

theorem wrap_up {i : Int} {n : Nat} (h0 : 0 ≤ i) (h : i < (n : Int)) (hn : n ≤ 140737488351232) : wrap64 (i + 1) = i + 1 := by
  unfold wrap64; omega


theorem same_f (a : Int) : laws_sameComplex.f a a = some true := by unfold laws_sameComplex.f; rw [if_pos rfl]

theorem eq_loop (x0 : List Int) (hn : x0.length ≤ 140737488351232) (d : Nat) : ∀ (k : Nat) (i : Int), 0 ≤ i → (x0.length : Int) - i = d → d < k → laws_eqComplex64S.l0 k x0 x0 i = some true := by
  induction d with
  | zero =>
    intro k i h0 hd hk
    obtain ⟨k, rfl⟩ : ∃ m, k = m + 1 := ⟨k - 1, by omega⟩
    simp only [laws_eqComplex64S.l0]
    rw [if_neg (by omega)]
  | succ d ih =>
    intro k i h0 hd hk
    obtain ⟨k, rfl⟩ : ∃ m, k = m + 1 := ⟨k - 1, by omega⟩
    simp only [laws_eqComplex64S.l0]
    rw [if_pos (by omega), if_pos h0, if_pos (by omega), same_f]
    simp only [Option.bind_some, if_true]
    rw [show wrap64 (i + 1) = i + 1 by unfold wrap64; omega]
    exact ih k (i + 1) (by omega) (by omega) (by omega)

theorem eq_f (x0 : List Int) (hn : x0.length ≤ 140737488351232) (k : Nat) (hk : x0.length < k) : laws_eqComplex64S.f k x0 x0 = some true := by
  unfold laws_eqComplex64S.f
  rw [if_pos rfl]
  exact eq_loop x0 hn x0.length k 0 (by omega) (by omega) hk

theorem okI_small : ∀ n : Nat, n < 300 → Go.Proofs.YtpfjcfhgckpjmaaDoor.Hc.okC (n : Int) = true := by decide +kernel
/-- What marking leaves: a, a + 1, .. -/
def Marked (a : Int) (x : List Int) : Prop := ∀ j : Nat, j < x.length → x[j]? = some (Go.Proofs.YtpfjcfhgckpjmaaDoor.Hc.mkc (a + j))

theorem mark_loop (n : Nat) (hn : n ≤ 290) (d : Nat) : ∀ (k : Nat) (x : List Int) (i a : Int), 0 ≤ i → x.length = n → (n : Int) - i = d → a = 1 + i →
    (∀ j : Nat, (j : Int) < i → x[j]? = some (Go.Proofs.YtpfjcfhgckpjmaaDoor.Hc.mkc (1 + (j : Int)))) → d < k → ∃ y, laws_markComplex64S.l0 k x a i = some (1 + (n : Int), y) ∧ y.length = n ∧ Marked 1 y := by
  induction d with
  | zero =>
    intro k x i a h0 hl hd ha hj hk
    obtain ⟨k, rfl⟩ : ∃ m, k = m + 1 := ⟨k - 1, by omega⟩
    simp only [laws_markComplex64S.l0]
    rw [if_neg (by omega)]
    exact ⟨x, by rw [show a = 1 + (n : Int) by omega], hl, fun j h => hj j (by omega)⟩
  | succ d ih =>
    intro k x i a h0 hl hd ha hj hk
    obtain ⟨k, rfl⟩ : ∃ m, k = m + 1 := ⟨k - 1, by omega⟩
    simp only [laws_markComplex64S.l0]
    have hok : Go.Proofs.YtpfjcfhgckpjmaaDoor.Hc.okC a = true := by
      obtain ⟨q, rfl⟩ : ∃ q : Nat, a = q := ⟨a.toNat, by omega⟩
      exact okI_small q (by omega)
    rw [if_pos (by omega), if_pos ⟨h0, hok⟩, show wrap64 (i + 1) = i + 1 by unfold wrap64; omega, show wrap64 (a + 1) = a + 1 by unfold wrap64; omega]
    refine ih k _ (i + 1) (a + 1) (by omega) (by simpa using hl) (by omega) (by omega) ?_ (by omega)
    intro j hlt
    rw [List.getElem?_set]
    by_cases h : i.toNat = j
    · subst h
      rw [if_pos rfl, if_pos (by omega), show (1 : Int) + ((i.toNat : Nat) : Int) = a by omega]
    · rw [if_neg h]
      exact hj j (by omega)

theorem mark_f (x : List Int) (hn : x.length ≤ 290) (k : Nat) (hk : x.length < k) : ∃ y, laws_markComplex64S.f k x 1 = some (1 + (x.length : Int), y) ∧ y.length = x.length ∧ Marked 1 y := by
  unfold laws_markComplex64S.f
  exact mark_loop x.length hn x.length k x 0 1 (by omega) rfl (by omega) (by omega) (by intro j h; omega) hk

theorem held_loop (x : List Int) (hn : x.length ≤ 290) (hm : Marked 1 x) (d : Nat) : ∀ (k : Nat) (i a : Int), 0 ≤ i → (x.length : Int) - i = d → a = 1 + i → d < k →
    laws_heldComplex64S.l0 k x a i = some (1 + (x.length : Int)) := by
  induction d with
  | zero =>
    intro k i a h0 hd ha hk
    obtain ⟨k, rfl⟩ : ∃ m, k = m + 1 := ⟨k - 1, by omega⟩
    simp only [laws_heldComplex64S.l0]
    rw [if_neg (by omega)]
    congr 1; omega
  | succ d ih =>
    intro k i a h0 hd ha hk
    obtain ⟨k, rfl⟩ : ∃ m, k = m + 1 := ⟨k - 1, by omega⟩
    simp only [laws_heldComplex64S.l0]
    have hok : Go.Proofs.YtpfjcfhgckpjmaaDoor.Hc.okC a = true := by
      obtain ⟨n, rfl⟩ : ∃ n : Nat, a = n := ⟨a.toNat, by omega⟩
      exact okI_small n (by omega)
    have hr : rd x i = Go.Proofs.YtpfjcfhgckpjmaaDoor.Hc.mkc a := by
      have h1 := hm i.toNat (by omega)
      unfold rd
      rw [List.getD_eq_getElem?_getD, h1]
      simp only [Option.getD_some]
      rw [show (1 : Int) + ((i.toNat : Nat) : Int) = a by omega]
    rw [if_pos (by omega), if_pos h0, if_pos ⟨hr, hok⟩, show wrap64 (i + 1) = i + 1 by unfold wrap64; omega, show wrap64 (a + 1) = a + 1 by unfold wrap64; omega]
    exact ih k (i + 1) (a + 1) (by omega) (by omega) (by omega) (by omega)

theorem held_f (x : List Int) (hn : x.length ≤ 290) (hm : Marked 1 x) (k : Nat) (hk : x.length < k) : laws_heldComplex64S.f k x 1 = some (1 + (x.length : Int)) := by
  unfold laws_heldComplex64S.f
  exact held_loop x hn hm x.length k 0 1 (by omega) (by omega) (by omega) hk

open Go.Proofs.YtpfjcfhgckpjmaaDoor.Ft Go.Proofs.YtpfjcfhgckpjmaaDoor.Hx Go.Fl Ieee
/-- The bits of a single. -/
abbrev okF (x : Int) : Prop := 0 ≤ x ∧ x < 4294967296
/-- A number's bits: one of the many of no number. -/
def nbits (x : Int) : Nat := (bitsV (val .f32 x.toNat)).toNat
theorem bitsV_range (b : Nat) (h : b < 4294967296) : 0 ≤ bitsV (val .f32 b) ∧ bitsV (val .f32 b) < 4294967296 := by
  by_cases hn : FloatKind.f32.format.nan b = true
  · rw [val_nan hn]; decide
  · rw [val_num (by simpa using hn)]
    show 0 ≤ ((b : Nat) : Int) ∧ ((b : Nat) : Int) < 4294967296
    omega
theorem nbits_lt (x : Int) (h : okF x) : nbits x < 4294967296 := by have := bitsV_range x.toNat (by unfold okF at h; omega); unfold nbits; omega
theorem bits_f (x : Int) (h : okF x) : spec_l01Bits.f x = some (nbits x : Int) := by
  unfold spec_l01Bits.f nbits
  rw [if_pos h, Int.toNat_of_nonneg (bitsV_range x.toNat (by unfold okF at h; omega)).1]
theorem bitsI_f (x : Int) (h : okF x) : impl_BitsOf.f x = some (nbits x : Int) := by
  unfold impl_BitsOf.f nbits
  rw [if_pos h, Int.toNat_of_nonneg (bitsV_range x.toNat (by unfold okF at h; omega)).1]
/-- k hexadecimal digits. -/
def hexK : Nat → Nat → List UInt8
  | 0, _ => []
  | k + 1, n => hexK k (n / 16) ++ [hexd (n % 16)]
theorem hexK_len (k : Nat) : ∀ n, (hexK k n).length = k := by
  induction k with
  | zero => intro n; rfl
  | succ k ih => intro n; unfold hexK; rw [List.length_append, ih]; rfl
theorem hexK_zero (k : Nat) : hexK k 0 = List.replicate k 48 := by
  induction k with
  | zero => rfl
  | succ k ih =>
    unfold hexK
    rw [Nat.zero_div, Nat.zero_mod, ih, List.replicate_succ']
    rfl
theorem hex_pad (k : Nat) : ∀ n, n < 16 ^ (k + 1) → List.replicate (k + 1 - (hexDigits n).length) 48 ++ hexDigits n = hexK (k + 1) n := by
  induction k with
  | zero =>
    intro n h
    have h' : n < 16 := by simpa using h
    rw [hexDigits_small n h']
    unfold hexK hexK
    rw [Nat.mod_eq_of_lt h']
    rfl
  | succ k ih =>
    intro n h
    by_cases hs : n < 16
    · rw [hexDigits_small n hs]
      unfold hexK
      rw [Nat.div_eq_of_lt hs, hexK_zero, Nat.mod_eq_of_lt hs]
      rfl
    · have hq : n / 16 < 16 ^ (k + 1) := by rw [Nat.div_lt_iff_lt_mul (by decide)]; rw [← Nat.pow_succ]; exact h
      have hl := hexDigits_len k (n / 16) hq
      rw [hexDigits_big n (by omega), List.length_append, List.length_singleton]
      rw [show k + 1 + 1 - ((hexDigits (n / 16)).length + 1) = k + 1 - (hexDigits (n / 16)).length by omega, ← List.append_assoc, ih (n / 16) hq]
      conv => rhs; unfold hexK
/-- The text of a number. -/
def T (x : Int) : ByteArray := ⟨(hexK 8 (nbits x)).toArray⟩
theorem T_list (x : Int) : (T x).data.toList = hexK 8 (nbits x) := by simp [T]
theorem T_size (x : Int) : (T x).size = 8 := by
  rw [Lib.size_eq, T_list, hexK_len]
theorem rep_one (c : Nat) : Lib.repeatL [48] c = List.replicate c 48 := by
  induction c with
  | zero => rfl
  | succ c ih => rw [List.replicate_succ, ← ih]; rfl
theorem w8 (q : Nat) (h : q ≤ 8) : wrap64 (8 - (q : Int)) = ((8 - q : Nat) : Int) := by unfold wrap64; omega
theorem le8 (q : Nat) (h : q ≤ 8) : 8 - q + q ≤ 9223372036854775807 := by omega
theorem p16 : (16 : Nat) ^ (7 + 1) = 4294967296 := rfl
theorem fmt_f (n : Nat) (h : n < 4294967296) : strconv_FormatInt_31.f (n : Int) 16 = some ⟨(hexDigits n).toArray⟩ := by
  unfold strconv_FormatInt_31.f
  rw [if_pos ⟨rfl, by omega, by omega⟩, Int.toNat_natCast]
theorem rep_f (c : Nat) (h : c ≤ 8) : strings_Repeat.f ⟨#[48]⟩ (c : Int) = some ⟨(List.replicate c 48).toArray⟩ := by
  unfold strings_Repeat.f
  have h1 : (⟨#[48]⟩ : ByteArray).size = 1 := rfl
  rw [if_pos ⟨h1, by omega, by omega⟩, Int.toNat_natCast, rep_one]
theorem join_hex (n : Nat) (h : n < 4294967296) : (⟨(List.replicate (8 - (hexDigits n).length) 48).toArray⟩ : ByteArray) ++ ⟨(hexDigits n).toArray⟩ = ⟨(hexK 8 n).toArray⟩ := by
  apply Go.WideShapes.bytes_inj
  rw [ByteArray.data_append]
  show ((List.replicate (8 - (hexDigits n).length) 48).toArray ++ (hexDigits n).toArray).toList = (hexK 8 n).toArray.toList
  rw [Array.toList_append, List.toList_toArray, List.toList_toArray, List.toList_toArray]
  exact hex_pad 7 n (by rw [p16]; exact h)
theorem size_list (l : List UInt8) : (⟨l.toArray⟩ : ByteArray).size = l.length := by rw [Lib.size_eq]
theorem len8 (n : Nat) (h : n < 4294967296) : (hexDigits n).length ≤ 8 := hexDigits_len 7 n (by rw [p16]; exact h)
theorem bind_is {α β : Type} {o : Option α} {a : α} (h : o = some a) (f : α → Option β) : o.bind f = f a := by rw [h]; rfl
theorem T_hex (n : Nat) (h : n < 4294967296) : ((strconv_FormatInt_31.f (n : Int) 16).bind fun t148 => ((strings_Repeat.f (⟨#[48]⟩ : ByteArray) (wrap64 (8 - (t148.size : Int)))).bind fun t149 => (if t149.size + t148.size ≤ 9223372036854775807 then (some (t149 ++ t148)) else (none)))) = some (⟨(hexK 8 n).toArray⟩ : ByteArray) := by
  rw [fmt_f _ h]
  simp only [Option.bind_some]
  rw [size_list, w8 _ (len8 n h), rep_f _ (Nat.sub_le _ _)]
  simp only [Option.bind_some]
  rw [size_list, List.length_replicate, join_hex _ h, if_pos (le8 _ (len8 n h))]
theorem T_is (x : Int) : impl_hexOf.f x = (impl_BitsOf.f x).bind fun t147 => ((strconv_FormatInt_31.f t147 16).bind fun t148 => ((strings_Repeat.f (⟨#[48]⟩ : ByteArray) (wrap64 (8 - (t148.size : Int)))).bind fun t149 => (if t149.size + t148.size ≤ 9223372036854775807 then (some (t149 ++ t148)) else (none)))) := rfl
theorem T_impl (x : Int) (h : okF x) : impl_hexOf.f x = some (T x) :=
  (T_is x).trans ((bind_is (bitsI_f x h) _).trans (T_hex (nbits x) (nbits_lt x h)))
theorem and_i64 (a : Nat) (ha : a < 4294967296) : Go.bits .and .i64 (a : Int) 15 = ((a % 16 : Nat) : Int) := by
  have h1 : (BitVec.ofInt 64 (a : Int)).toNat = a := by
    rw [BitVec.ofInt_natCast, BitVec.toNat_ofNat]; exact Nat.mod_eq_of_lt (by omega)
  have h2 : (BitVec.ofInt 64 15).toNat = 15 := by decide
  have hx : a &&& 15 = a % 16 := Nat.and_two_pow_sub_one_eq_mod a 4
  show IntKind.i64.wrap ((BitVec.ofInt 64 (a : Int) &&& BitVec.ofInt 64 15).toNat : Int) = _
  rw [BitVec.toNat_and, h1, h2, hx]
  simp only [IntKind.wrap, IntKind.bits, IntKind.signed]
  have : a % 16 < 16 := Nat.mod_lt _ (by decide)
  generalize a % 16 = q at this
  simp
  omega
theorem nums_map (l : List UInt8) : strOfNums (l.map fun b => (b.toNat : Int)) = ⟨l.toArray⟩ := by
  unfold strOfNums
  congr 2
  rw [List.map_map]
  conv => rhs; rw [← List.map_id l]
  apply List.map_congr_left
  intro b _
  simp
theorem hexK_top (j : Nat) : ∀ n, hexK (j + 1) n = hexd (n / 16 ^ j % 16) :: hexK j n := by
  induction j with
  | zero =>
    intro n
    show [] ++ [hexd (n % 16)] = [hexd (n / 1 % 16)]
    rw [Nat.div_one]; rfl
  | succ j ih =>
    intro n
    have e : hexK (j + 1 + 1) n = hexK (j + 1) (n / 16) ++ [hexd (n % 16)] := rfl
    rw [e, ih (n / 16), Nat.div_div_eq_div_mul, Nat.pow_succ, Nat.mul_comm (16 ^ j) 16]
    rfl
/-- A list of singles' bits. -/
abbrev okL (l : List Int) : Prop := ∀ x ∈ l, okF x
theorem mem_rd (x : List Int) (i : Int) (h0 : 0 ≤ i) (h : i < (x.length : Int)) : rd x i ∈ x := by
  have := rd_get x i h0 h
  exact List.mem_of_getElem? this
theorem drop_rd (x : List Int) (i : Int) (h0 : 0 ≤ i) (h : i < (x.length : Int)) : x.drop i.toNat = rd x i :: x.drop (i + 1).toNat := by
  have hl : i.toNat < x.length := by omega
  rw [List.drop_eq_getElem_cons hl, show (i + 1).toNat = i.toNat + 1 by omega]
  congr 1
  have := rd_get x i h0 h
  rw [List.getElem?_eq_getElem hl] at this
  exact Option.some.inj this
def H (x : Int) : List UInt8 := hexK 8 (nbits x)
theorem app_data (a b : ByteArray) : (a ++ b).data = a.data ++ b.data := ByteArray.data_append
theorem H_len (x : Int) : (H x).length = 8 := hexK_len 8 _

theorem bt_get (s : ByteArray) (i : Int) (b : UInt8) (r : List UInt8) (h : s.data.toList.drop i.toNat = b :: r) : bt s i = (b.toNat : Int) ∧ i.toNat < s.size := by
  have hl : i.toNat < s.data.toList.length := by
    rcases Nat.lt_or_ge i.toNat s.data.toList.length with h' | h'
    · exact h'
    · rw [List.drop_eq_nil_of_le h'] at h; cases h
  have hs : i.toNat < s.size := by rw [Lib.size_eq]; exact hl
  refine ⟨?_, hs⟩
  rw [List.drop_eq_getElem_cons hl] at h
  injection h with h1 h2
  unfold bt
  rw [dif_pos hs, ← h1]
  rfl
theorem str_eq {a b : ByteArray} (h : a.toList = b.toList) : a = b := by
  rw [ByteArray.toList_eq, ByteArray.toList_eq] at h
  exact Go.WideShapes.bytes_inj h
/-- A text cut at a byte; p is the piece that is being built. -/
def cutL (c : UInt8) : List UInt8 → List UInt8 → List (List UInt8)
  | p, [] => [p]
  | p, b :: l => if b = c then p :: cutL c [] l else cutL c (p ++ [b]) l
theorem splitK_ne (c : UInt8) (k : Nat) (l : List UInt8) : ∃ x r, Lib.splitK [c] 0 k l = x :: r := by
  cases k with
  | zero => exact ⟨_, _, rfl⟩
  | succ k =>
    unfold Lib.splitK
    split
    · exact ⟨_, _, rfl⟩
    · exact ⟨_, _, rfl⟩
theorem splitK_skip (c b : UInt8) (h : b ≠ c) (k : Nat) (l : List UInt8) (x : List UInt8) (r : List (List UInt8)) (e : Lib.splitK [c] 0 k l = x :: r) : Lib.splitK [c] 0 k (b :: l) = (b :: x) :: r := by
  cases k with
  | zero =>
    have e' : [l] = x :: r := e
    injection e' with e1 e2
    subst e1; subst e2
    rfl
  | succ k =>
    have hp : ([c] : List UInt8).isPrefixOf (b :: l) = false := by simp [List.isPrefixOf, Ne.symm h]
    have hix : Lib.index (b :: l) [c] = if Lib.index l [c] == -1 then -1 else Lib.index l [c] + 1 := by rw [Lib.index, hp]; simp
    by_cases hm : Lib.index l [c] = -1
    · rw [Lib.splitK, if_pos (beq_iff_eq.2 hm)] at e
      rw [Lib.splitK, if_pos (beq_iff_eq.2 (by rw [hix, if_pos (beq_iff_eq.2 hm)]))]
      injection e with e1 e2
      subst e1; subst e2
      rfl
    · have hge := Lib.index_ge l [c]
      obtain ⟨j, hj⟩ : ∃ j : Nat, Lib.index l [c] = j := ⟨(Lib.index l [c]).toNat, by omega⟩
      have hix' : Lib.index (b :: l) [c] = ((j + 1 : Nat) : Int) := by rw [hix, if_neg (fun e => hm (beq_iff_eq.1 e)), hj]; omega
      rw [Lib.splitK, if_neg (fun q => hm (beq_iff_eq.1 q)), hj] at e
      rw [Lib.splitK, if_neg (fun q => by have := beq_iff_eq.1 q; rw [hix'] at this; omega), hix']
      simp only [Int.toNat_natCast, Nat.add_zero, List.length_singleton, List.take_succ_cons] at e ⊢
      injection e with e1 e2
      rw [e1, show j + 1 + 1 = (j + 1) + 1 from rfl, List.drop_succ_cons, e2]
theorem cutL_split (c : UInt8) (l : List UInt8) : ∀ p : List UInt8, ∀ x r, Lib.splitK [c] 0 (Lib.count l [c]) l = x :: r → cutL c p l = (p ++ x) :: r := by
  induction l with
  | nil =>
    intro p x r e
    have e0 : Lib.count [] [c] = 0 := by rw [Lib.count_one]; rfl
    rw [e0] at e
    have e' : [([] : List UInt8)] = x :: r := e
    injection e' with e1 e2
    subst e1; subst e2
    simp [cutL]
  | cons b l ih =>
    intro p x r e
    by_cases h : b = c
    · subst h
      rw [Lib.count_cons_eq, Nat.add_comm, Lib.splitK] at e
      have hix : Lib.index (b :: l) [b] = 0 := by rw [Lib.index]; simp [List.isPrefixOf]
      rw [if_neg (by rw [hix]; decide), hix] at e
      simp only [Int.toNat_zero, Nat.add_zero, List.length_singleton, List.take_zero, Nat.zero_add, List.drop_succ_cons, List.drop_zero] at e
      injection e with e1 e2
      subst e1
      obtain ⟨y, t, ey⟩ := splitK_ne b (Lib.count l [b]) l
      have := ih [] y t ey
      unfold cutL
      rw [if_pos rfl, this, List.append_nil, List.nil_append, ← ey, e2]
    · rw [Lib.count_cons_ne b c l h] at e
      obtain ⟨y, t, ey⟩ := splitK_ne c (Lib.count l [c]) l
      rw [splitK_skip c b h _ l y t ey] at e
      injection e with e1 e2
      subst e1; subst e2
      unfold cutL
      rw [if_neg h, ih (p ++ [b]) y t ey, List.append_assoc]
      rfl
theorem cutL_len (c : UInt8) (l : List UInt8) : ∀ p, (cutL c p l).length ≤ l.length + 1 := by
  induction l with
  | nil => intro p; simp [cutL]
  | cons b l ih =>
    intro p
    unfold cutL
    split
    · have := ih []; simp only [List.length_cons]; omega
    · have := ih (p ++ [b]); simp only [List.length_cons]; omega
theorem cutL_piece (c : UInt8) (l : List UInt8) : ∀ p, ∀ x ∈ cutL c p l, x.length ≤ p.length + l.length := by
  induction l with
  | nil => intro p x hx; simp [cutL] at hx; subst hx; omega
  | cons b l ih =>
    intro p x hx
    unfold cutL at hx
    split at hx
    · rcases List.mem_cons.1 hx with rfl | hx
      · omega
      · have := ih [] x hx; simp only [List.length_cons, List.length_nil] at *; omega
    · have := ih (p ++ [b]) x hx; simp only [List.length_cons, List.length_append, List.length_nil] at *; omega
/-- The pieces of a text. -/
def pcs (s : ByteArray) : List ByteArray := (cutL 44 [] s.data.toList).map fun l => ⟨l.toArray⟩
theorem pcs_len (s : ByteArray) : (pcs s).length ≤ s.size + 1 := by
  unfold pcs
  rw [List.length_map, Lib.size_eq]
  exact cutL_len _ _ _
theorem pcs_size (s : ByteArray) : ∀ x ∈ pcs s, x.size ≤ s.size := by
  intro x hx
  obtain ⟨l, hl, rfl⟩ := List.mem_map.1 hx
  have := cutL_piece 44 s.data.toList [] l hl
  rw [Lib.size_eq, Lib.size_eq]
  simpa using this
theorem back (l : List ByteArray) : (l.map (·.data.toList)).map (fun x => (⟨x.toArray⟩ : ByteArray)) = l := by
  rw [List.map_map]
  conv => rhs; rw [← List.map_id l]
  apply List.map_congr_left
  intro x _
  simp
theorem pcs_split (s : ByteArray) : Lib.splitB ⟨#[44]⟩ 0 (Lib.countB s ⟨#[44]⟩) s = pcs s := by
  have e := Lib.splitB_data ⟨#[44]⟩ 0 (Lib.countB s ⟨#[44]⟩) s
  obtain ⟨x, r, ex⟩ := splitK_ne 44 (Lib.count s.data.toList [44]) s.data.toList
  have h := cutL_split 44 s.data.toList [] x r ex
  have e2 : Lib.splitK [44] 0 (Lib.count s.data.toList [44]) s.data.toList = cutL 44 [] s.data.toList := by rw [h, ex]; rfl
  have e3 : (Lib.splitB ⟨#[44]⟩ 0 (Lib.countB s ⟨#[44]⟩) s).map (·.data.toList) = cutL 44 [] s.data.toList := e.trans e2
  rw [← back (Lib.splitB ⟨#[44]⟩ 0 (Lib.countB s ⟨#[44]⟩) s), e3]
  rfl
theorem take_more (l : List UInt8) (f i : Nat) (b : UInt8) (r : List UInt8) (hf : f ≤ i) (e : l.drop i = b :: r) : (l.drop f).take (i + 1 - f) = (l.drop f).take (i - f) ++ [b] := by
  have hl : i < l.length := by
    rcases Nat.lt_or_ge i l.length with h' | h'
    · exact h'
    · rw [List.drop_eq_nil_of_le h'] at e; cases e
  rw [List.drop_eq_getElem_cons hl] at e
  injection e with e1 _
  rw [show i + 1 - f = (i - f) + 1 by omega, List.take_succ_eq_append_getElem (by rw [List.length_drop]; omega)]
  congr 2
  rw [List.getElem_drop, ← e1]
  congr 1; omega
theorem ext_mk (s : ByteArray) (f i : Nat) : s.extract f i = ⟨((s.data.toList.drop f).take (i - f)).toArray⟩ := by
  apply str_eq
  rw [Lib.toList_data, Lib.toList_data, Lib.extract_data]
theorem wrap_nat (i n : Nat) (h : i ≤ n) (hn : n ≤ 140737488351232) : wrap64 ((i : Int) + 1) = ((i + 1 : Nat) : Int) := by unfold wrap64; omega
theorem cut_loop (s : ByteArray) (hs : s.size ≤ 1048576) (d : Nat) : ∀ (k i f : Nat) (out : List ByteArray), f ≤ i → i + d = s.size → out.length + d ≤ 1048576 → d + 2 ≤ k →
    spec_l01Cut.l0 k s 44 out (f : Int) (i : Int) = some (out ++ (cutL 44 ((s.data.toList.drop f).take (i - f)) (s.data.toList.drop i)).map fun l => (⟨l.toArray⟩ : ByteArray)) := by
  induction d with
  | zero =>
    intro k i f out hf hi ho hk
    obtain ⟨k, rfl⟩ : ∃ m, k = m + 2 := ⟨k - 2, by omega⟩
    have e1 : (i : Int) = (s.size : Int) := by omega
    have e0 : (i : Int) ≤ (s.size : Int) := by omega
    have e2 : (0 : Int) ≤ (f : Int) := by omega
    have e3 : (f : Int) ≤ (i : Int) := by omega
    have e4 : out.length < 8796093022208 := by omega
    have e5 : ¬ ((i + 1 : Nat) : Int) ≤ (s.size : Int) := by omega
    simp only [spec_l01Cut.l0]
    rw [if_pos e0, if_pos e1, if_pos e2, if_pos e3, if_pos e4, wrap_nat i s.size (by omega) (by omega), if_neg e5, Int.toNat_natCast, Int.toNat_natCast, ext_mk, List.drop_eq_nil_of_le (show s.data.toList.length ≤ i by rw [← Lib.size_eq]; omega)]
    rfl
  | succ d ih =>
    intro k i f out hf hi ho hk
    obtain ⟨k, rfl⟩ : ∃ m, k = m + 1 := ⟨k - 1, by omega⟩
    have hl : i < s.data.toList.length := by rw [← Lib.size_eq]; omega
    have e := List.drop_eq_getElem_cons hl
    obtain ⟨hb, _⟩ := bt_get s (i : Int) _ _ (by rw [Int.toNat_natCast]; exact e)
    generalize s.data.toList[i] = b at hb e
    have e1 : ¬ (i : Int) = (s.size : Int) := by omega
    have e0 : (i : Int) ≤ (s.size : Int) := by omega
    have e00 : (0 : Int) ≤ (i : Int) := by omega
    have e01 : (i : Int) < (s.size : Int) := by omega
    have e2 : (0 : Int) ≤ (f : Int) := by omega
    have e3 : (f : Int) ≤ (i : Int) := by omega
    have e4 : out.length < 8796093022208 := by omega
    simp only [spec_l01Cut.l0]
    rw [if_pos e0, if_neg e1, if_pos e00, if_pos e01, hb, wrap_nat i s.size (by omega) (by omega), e]
    by_cases h : b = 44
    · subst h
      rw [if_pos (by decide), if_pos e2, if_pos e3, if_pos e4, Int.toNat_natCast, Int.toNat_natCast, ext_mk]
      rw [ih k (i + 1) (i + 1) _ (Nat.le_refl _) (by omega) (by rw [List.length_append, List.length_singleton]; omega) (by omega)]
      rw [Nat.sub_self, List.take_zero]
      conv => rhs; unfold cutL
      rw [if_pos rfl, List.map_cons, List.append_assoc]
      rfl
    · rw [if_neg (fun q => h (UInt8.toNat_inj.1 (by have : b.toNat = 44 := by omega
                                                    exact this)))]
      rw [ih k (i + 1) f out (by omega) (by omega) (by omega) (by omega), take_more _ f i b _ hf e]
      conv => rhs; unfold cutL
      rw [if_neg h]
theorem cut_f (s : ByteArray) (hs : s.size ≤ 1048576) (k : Nat) (hk : s.size + 2 ≤ k) : spec_l01Cut.f k s 44 = some (pcs s) := by
  unfold spec_l01Cut.f
  have := cut_loop s hs s.size k 0 0 [] (Nat.le_refl _) (by omega) (by simp; omega) hk
  simpa [pcs] using this
theorem split_f (s : ByteArray) (hs : s.size ≤ 1048576) (k : Nat) : strings_Split.f k s ⟨#[44]⟩ = some (pcs s) := by
  unfold strings_Split.f
  rw [if_pos ⟨by omega, by decide⟩, pcs_split]

open Go.Proofs.YtpfjcfhgckpjmaaDoor.Px
/-- What a byte is worth as the reference reads it. -/
def ld (c : UInt8) : Option Nat := if 48 ≤ c.toNat ∧ c.toNat ≤ 57 then some (c.toNat - 48) else if 97 ≤ c.toNat ∧ c.toNat ≤ 102 then some (c.toNat - 87) else none
def digL : Nat → List UInt8 → Option Nat
  | acc, [] => some acc
  | acc, c :: r => match ld c with
    | some d => digL (acc * 16 + d) r
    | none => none
theorem ld_lt (c : UInt8) (d : Nat) (h : ld c = some d) : d < 16 := by
  unfold ld at h
  split at h
  · injection h with h; omega
  · split at h
    · injection h with h; omega
    · cases h
theorem low32 : ∀ n : Nat, n < 256 → 97 ≤ n → n ≤ 102 → (n ||| 32) = n := by decide +kernel
theorem hv_ld (c : UInt8) (d : Nat) (h : ld c = some d) : hv c = some d := by
  unfold ld at h
  unfold hv
  split at h
  · rename_i q; rw [if_pos q]; exact h
  · rename_i q
    split at h
    · rename_i p
      rw [if_neg q, low32 c.toNat c.toNat_lt p.1 p.2, if_pos p]; exact h
    · cases h
theorem parse_dig (l : List UInt8) : ∀ acc v, digL acc l = some v → parseH acc l = some v := by
  induction l with
  | nil => intro acc v h; exact h
  | cons c r ih =>
    intro acc v h
    unfold digL at h
    unfold parseH
    cases e : ld c with
    | none => rw [e] at h; cases h
    | some d =>
      rw [e] at h
      rw [hv_ld c d e]
      exact ih _ _ h
theorem ld_hexd (d : Nat) (h : d < 16) : ld (hexd d) = some d := by
  match d, h with
  | 0, _ => rfl
  | 1, _ => rfl
  | 2, _ => rfl
  | 3, _ => rfl
  | 4, _ => rfl
  | 5, _ => rfl
  | 6, _ => rfl
  | 7, _ => rfl
  | 8, _ => rfl
  | 9, _ => rfl
  | 10, _ => rfl
  | 11, _ => rfl
  | 12, _ => rfl
  | 13, _ => rfl
  | 14, _ => rfl
  | 15, _ => rfl
  | k + 16, hk => exact absurd hk (by omega)
theorem hexd_ld (c : UInt8) (d : Nat) (h : ld c = some d) : hexd d = c := by
  unfold ld at h
  apply UInt8.toNat_inj.1
  unfold hexd
  split at h
  · injection h with h
    subst h
    rw [if_pos (by omega), UInt8.toNat_ofNat']; omega
  · split at h
    · injection h with h
      subst h
      rw [if_neg (by omega), UInt8.toNat_ofNat']; omega
    · cases h
theorem hexd_no44 (d : Nat) (h : d < 16) : hexd d ≠ 44 := by
  intro e
  have := ld_hexd d h
  rw [e] at this
  cases this
theorem digL_snoc (l : List UInt8) (c : UInt8) : ∀ acc, digL acc (l ++ [c]) = match digL acc l with
    | some v => match ld c with
      | some d => some (v * 16 + d)
      | none => none
    | none => none := by
  induction l with
  | nil =>
    intro acc
    show digL acc [c] = match some acc with | some v => _ | none => none
    unfold digL
    cases ld c with
    | none => rfl
    | some d => rfl
  | cons b r ih =>
    intro acc
    show digL acc (b :: (r ++ [c])) = _
    unfold digL
    cases ld b with
    | none => rfl
    | some d => exact ih _
theorem dig_hexK (j : Nat) : ∀ n, n < 16 ^ j → digL 0 (hexK j n) = some n := by
  induction j with
  | zero => intro n h; have : n = 0 := by simpa using h
            subst this; rfl
  | succ j ih =>
    intro n h
    have hq : n / 16 < 16 ^ j := by rw [Nat.div_lt_iff_lt_mul (by decide)]; rw [← Nat.pow_succ]; exact h
    have e : hexK (j + 1) n = hexK j (n / 16) ++ [hexd (n % 16)] := rfl
    rw [e, digL_snoc, ih _ hq, ld_hexd _ (Nat.mod_lt _ (by decide))]
    show some (n / 16 * 16 + n % 16) = some n
    congr 1; omega
theorem hexK_dig (j : Nat) : ∀ l v, l.length = j → digL 0 l = some v → v < 16 ^ j ∧ l = hexK j v := by
  induction j with
  | zero =>
    intro l v hl h
    have := List.eq_nil_of_length_eq_zero hl
    subst this
    have e : some 0 = some v := h
    injection e with e
    subst e
    exact ⟨by decide, rfl⟩
  | succ j ih =>
    intro l v hl h
    rcases List.eq_nil_or_concat l with e | ⟨l', c, e⟩
    · subst e; simp at hl
    · have e' : l = l' ++ [c] := by simpa using e
      subst e'
      rw [List.length_append, List.length_singleton] at hl
      rw [digL_snoc] at h
      cases e1 : digL 0 l' with
      | none => rw [e1] at h; cases h
      | some q =>
        rw [e1] at h
        cases e2 : ld c with
        | none => rw [e2] at h; cases h
        | some d =>
          rw [e2] at h
          have h' : some (q * 16 + d) = some v := h
          injection h' with h'
          subst h'
          obtain ⟨h1, h2⟩ := ih l' q (by omega) e1
          have hd := ld_lt c d e2
          refine ⟨by rw [Nat.pow_succ]; omega, ?_⟩
          have e3 : hexK (j + 1) (q * 16 + d) = hexK j ((q * 16 + d) / 16) ++ [hexd ((q * 16 + d) % 16)] := rfl
          rw [e3, show (q * 16 + d) / 16 = q by omega, show (q * 16 + d) % 16 = d by omega, hexd_ld c d e2, ← h2]
theorem no44 (k n : Nat) : ∀ b ∈ hexK k n, b ≠ 44 := by
  induction k generalizing n with
  | zero => intro b hb; cases hb
  | succ k ih =>
    intro b hb
    rcases List.mem_append.1 hb with hb | hb
    · exact ih _ b hb
    · rw [List.mem_singleton.1 hb]; exact hexd_no44 _ (Nat.mod_lt _ (by decide))
theorem join_tail (x : List UInt8) (r : List (List UInt8)) : Lib.joinTail [44] (x :: r) = 44 :: (x ++ Lib.joinTail [44] r) := by simp [Lib.joinTail]
theorem cutL_ne (l : List UInt8) : ∀ p, ∃ x r, cutL 44 p l = x :: r := by
  induction l with
  | nil => intro p; exact ⟨_, _, rfl⟩
  | cons b l ih =>
    intro p
    unfold cutL
    split
    · exact ⟨_, _, rfl⟩
    · exact ih _
theorem join_cut (l : List UInt8) : ∀ p, Lib.join (cutL 44 p l) [44] = p ++ l := by
  induction l with
  | nil => intro p; unfold cutL; rw [Lib.join_cons]; simp [Lib.joinTail]
  | cons b l ih =>
    intro p
    unfold cutL
    split
    · rename_i h
      subst h
      obtain ⟨x, r, e⟩ := cutL_ne l []
      have := ih []
      rw [e, Lib.join_cons] at this
      rw [Lib.join_cons, e, join_tail, this]
      rfl
    · rw [ih, List.append_assoc]; rfl
theorem cutL_app (a : List UInt8) : ∀ p t, (∀ b ∈ a, b ≠ 44) → cutL 44 p (a ++ t) = cutL 44 (p ++ a) t := by
  induction a with
  | nil => intro p t _; rw [List.nil_append, List.append_nil]
  | cons b a ih =>
    intro p t h
    show cutL 44 p (b :: (a ++ t)) = _
    conv => lhs; unfold cutL
    rw [if_neg (h b List.mem_cons_self), ih _ _ (fun c hc => h c (List.mem_cons_of_mem _ hc)), List.append_assoc]
    rfl
theorem cut_join (r : List (List UInt8)) : ∀ a, (∀ x ∈ a :: r, ∀ b ∈ x, b ≠ 44) → cutL 44 [] (a ++ Lib.joinTail [44] r) = a :: r := by
  induction r with
  | nil =>
    intro a h
    rw [cutL_app a [] _ (h a List.mem_cons_self)]
    rfl
  | cons x r ih =>
    intro a h
    rw [cutL_app a [] _ (h a List.mem_cons_self), join_tail, List.nil_append]
    conv => lhs; unfold cutL
    rw [if_pos rfl, ih x (fun y hy => h y (List.mem_cons_of_mem _ hy))]
theorem dw1 (v z : Nat) (hv : v < 268435456) (h1 : 48 ≤ z) (h2 : z ≤ 57) : wrap64 (wrap64 (16 * (v : Int)) + ((z : Int) - 48) % 256) = ((v * 16 + (z - 48) : Nat) : Int) := by
  have e1 : ((z : Int) - 48) % 256 = (z : Int) - 48 := by omega
  have e2 : wrap64 (16 * (v : Int)) = 16 * (v : Int) := by unfold wrap64; omega
  have e3 : wrap64 (16 * (v : Int) + ((z : Int) - 48)) = 16 * (v : Int) + ((z : Int) - 48) := by unfold wrap64; omega
  rw [e1, e2, e3]; omega
theorem dw2 (v z : Nat) (hv : v < 268435456) (h1 : 97 ≤ z) (h2 : z ≤ 102) : wrap64 (wrap64 (16 * (v : Int)) + (((z : Int) - 97) % 256 + 10)) = ((v * 16 + (z - 87) : Nat) : Int) := by
  have e1 : ((z : Int) - 97) % 256 = (z : Int) - 97 := by omega
  have e2 : wrap64 (16 * (v : Int)) = 16 * (v : Int) := by unfold wrap64; omega
  have e3 : wrap64 (16 * (v : Int) + ((z : Int) - 97 + 10)) = 16 * (v : Int) + ((z : Int) - 97 + 10) := by unfold wrap64; omega
  rw [e1, e2, e3]; omega
theorem nn1 (z : Nat) (h : z < 256) : ¬ ((z : Int) - 48) % 256 < 0 := by omega
theorem nn2 (z : Nat) (h : z < 256) : ¬ ((z : Int) - 97) % 256 + 10 < 0 := by omega
theorem up8 (j : Nat) (h : j < 8) : wrap64 ((j : Int) + 1) = ((j + 1 : Nat) : Int) := by unfold wrap64; omega
theorem below7 (v j : Nat) (h : v < 16 ^ j) (hj : j < 8) : v < 268435456 := by
  have h7 : (16 : Nat) ^ j ≤ 16 ^ 7 := Nat.pow_le_pow_right (by decide) (by omega)
  exact Nat.lt_of_lt_of_le h h7
theorem pw16 (v d q : Nat) (h : v < q) (hd : d < 16) : v * 16 + d < q * 16 := by omega
theorem lt32 (n : Nat) (h : n < 16 ^ 8) : n < 4294967296 := h

open Go.Proofs.YtpfjcfhgckpjmaaDoor.Hc
theorem okF_nat (n : Nat) (h : n < 4294967296) : okF (n : Int) := by unfold okF; omega
theorem from_f (x : Int) (h : okF x) : spec_l01From.f x = some x := by unfold spec_l01From.f; rw [if_pos h]
/-- One byte of the reference's digits. -/
theorem cround (k : Nat) (s : ByteArray) (v : Nat) (hv : v < 268435456) (j : Nat) (hj : j < 8) (hs : j < s.size) (c : UInt8) (hc : bt s (j : Int) = (c.toNat : Int)) :
    spec_l01Digits.l0 (k + 4) s (v : Int) (j : Int) = match ld c with
      | some d => spec_l01Digits.l0 k s ((v * 16 + d : Nat) : Int) ((j + 1 : Nat) : Int)
      | none => some (0, false) := by
  have hz : c.toNat < 256 := c.toNat_lt
  have w1 := up8 j hj
  have c2 : (0 : Int) ≤ (j : Int) := by omega
  have c3 : (j : Int) < (s.size : Int) := by omega
  simp only [spec_l01Digits.l0]
  rw [if_pos c3, if_pos c2, hc]
  unfold ld
  generalize c.toNat = z at *
  by_cases h1 : 48 ≤ z
  · rw [if_pos (show (z : Int) ≥ 48 by omega)]
    by_cases h2 : z ≤ 57
    · rw [if_pos (show 48 ≤ z ∧ z ≤ 57 from ⟨h1, h2⟩), decide_eq_true (show (z : Int) ≤ 57 by omega)]
      simp only [spec_l01Digits.j1, if_true]
      rw [if_pos c2, if_pos c3]
      simp only [spec_l01Digits.j2]
      rw [if_pos c2, if_pos c3, hc, if_neg (show ¬ (z : Int) ≥ 97 by omega)]
      simp only [spec_l01Digits.j3, Bool.false_eq_true, if_false]
      rw [if_neg (nn1 z hz), w1, dw1 v z hv h1 h2]
    · rw [if_neg (show ¬ (48 ≤ z ∧ z ≤ 57) by omega), decide_eq_false (show ¬ (z : Int) ≤ 57 by omega)]
      simp only [spec_l01Digits.j1, Bool.false_eq_true, if_false]
      simp only [spec_l01Digits.j2]
      rw [if_pos c2, if_pos c3, hc]
      by_cases h3 : 97 ≤ z
      · rw [if_pos (show (z : Int) ≥ 97 by omega)]
        by_cases h4 : z ≤ 102
        · rw [if_pos (show 97 ≤ z ∧ z ≤ 102 from ⟨h3, h4⟩), decide_eq_true (show (z : Int) ≤ 102 by omega)]
          simp only [spec_l01Digits.j3, if_true]
          rw [if_pos c2, if_pos c3, hc, if_neg (nn2 z hz), w1, dw2 v z hv h3 h4]
        · rw [if_neg (show ¬ (97 ≤ z ∧ z ≤ 102) by omega), decide_eq_false (show ¬ (z : Int) ≤ 102 by omega)]
          simp only [spec_l01Digits.j3, Bool.false_eq_true, if_false]
          rw [if_pos (by decide)]
      · rw [if_neg (show ¬ (z : Int) ≥ 97 by omega), if_neg (show ¬ (97 ≤ z ∧ z ≤ 102) by omega)]
        simp only [spec_l01Digits.j3, Bool.false_eq_true, if_false]
        rw [if_pos (by decide)]
  · rw [if_neg (show ¬ (z : Int) ≥ 48 by omega), if_neg (show ¬ (48 ≤ z ∧ z ≤ 57) by omega), if_neg (show ¬ (97 ≤ z ∧ z ≤ 102) by omega)]
    simp only [spec_l01Digits.j1, Bool.false_eq_true, if_false]
    simp only [spec_l01Digits.j2]
    rw [if_pos c2, if_pos c3, hc, if_neg (show ¬ (z : Int) ≥ 97 by omega)]
    simp only [spec_l01Digits.j3, Bool.false_eq_true, if_false]
    rw [if_pos (by decide)]
/-- What the reference tells of eight digits. -/
def cdig (s : ByteArray) : Int × Bool :=
  match digL 0 s.data.toList with
  | some n => if nbits (n : Int) = n then ((n : Int), true) else (0, false)
  | none => (0, false)
def ctook (n : Nat) : Option (Int × Bool) := (spec_l01From.f (n : Int)).bind fun t110 => ((spec_l01Bits.f t110).bind fun t111 => (if t111 = (n : Int) then (some (t110, true)) else (some (0, false))))
theorem ctook_is (n : Nat) (h : n < 4294967296) : ctook n = some (if nbits (n : Int) = n then ((n : Int), true) else (0, false)) := by
  unfold ctook
  rw [bind_is (from_f _ (okF_nat n h)), bind_is (bits_f _ (okF_nat n h))]
  by_cases hb : nbits (n : Int) = n
  · rw [if_pos (by rw [hb]), if_pos hb]
  · rw [if_neg (fun q => hb (by omega)), if_neg hb]
theorem cloop (s : ByteArray) (hs : s.size = 8) (e : Nat) : ∀ (k v j : Nat), j + e = 8 → v < 16 ^ j →
    spec_l01Digits.l0 (k + 4 * e + 1) s (v : Int) (j : Int) = match digL v (s.data.toList.drop j) with
      | some n => ctook n
      | none => some (0, false) := by
  induction e with
  | zero =>
    intro k v j hj _
    have hj8 : j = 8 := by omega
    subst hj8
    rw [List.drop_eq_nil_of_le (by rw [← Lib.size_eq]; omega)]
    show spec_l01Digits.l0 (k + 1) s (v : Int) ((8 : Nat) : Int) = ctook v
    simp only [spec_l01Digits.l0]
    rw [if_neg (by rw [hs]; decide)]
    rfl
  | succ e ih =>
    intro k v j hj hv
    have hl : j < s.data.toList.length := by rw [← Lib.size_eq]; omega
    have hd := List.drop_eq_getElem_cons hl
    obtain ⟨hb, _⟩ := bt_get s (j : Int) _ _ (by rw [Int.toNat_natCast]; exact hd)
    generalize s.data.toList[j] = c at hb hd
    have hj8 : j < 8 := by omega
    have hv7 := below7 v j hv hj8
    rw [show k + 4 * (e + 1) + 1 = (k + 4 * e + 1) + 4 by omega, cround (k + 4 * e + 1) s v hv7 j hj8 (by omega) c hb, hd]
    conv => rhs; unfold digL
    cases hld : ld c with
    | none => rfl
    | some d =>
      have hdl := ld_lt c d hld
      exact ih k (v * 16 + d) (j + 1) (by omega) (by rw [Nat.pow_succ]; exact pw16 v d _ hv hdl)
theorem cdig_f (s : ByteArray) (hs : s.size = 8) (k : Nat) (hk : 40 ≤ k) : spec_l01Digits.f k s = some (cdig s) := by
  obtain ⟨m, rfl⟩ : ∃ m, k = m + 4 * 8 + 1 := ⟨k - 33, by omega⟩
  have h := cloop s hs 8 m 0 0 (by omega) (by decide)
  rw [List.drop_zero, show ((0 : Nat) : Int) = 0 from rfl] at h
  unfold spec_l01Digits.f
  rw [h]
  unfold cdig
  cases hd : digL 0 s.data.toList with
  | none => rfl
  | some n =>
    obtain ⟨hlt, _⟩ := hexK_dig 8 s.data.toList n (by rw [← Lib.size_eq]; exact hs) hd
    have hlt' := lt32 n hlt
    clear hlt
    exact ctook_is n hlt'
/-- The halves of a piece. -/
def fst8 (p : ByteArray) : ByteArray := p.extract 0 8
def snd8 (p : ByteArray) : ByteArray := p.extract 8 p.size
theorem fst8_list (p : ByteArray) : (fst8 p).data.toList = p.data.toList.take 8 := by unfold fst8; rw [Lib.extract_data]; rfl
theorem snd8_list (p : ByteArray) : (snd8 p).data.toList = p.data.toList.drop 8 := by
  unfold snd8
  rw [Lib.extract_data, List.take_of_length_le]
  rw [List.length_drop, Lib.size_eq]
  omega
theorem fst8_size (p : ByteArray) (h : p.size = 16) : (fst8 p).size = 8 := by
  rw [Lib.size_eq, fst8_list, List.length_take, ← Lib.size_eq, h]; rfl
theorem snd8_size (p : ByteArray) (h : p.size = 16) : (snd8 p).size = 8 := by
  rw [Lib.size_eq, snd8_list, List.length_drop, ← Lib.size_eq, h]
/-- What the reference reads out of pieces. -/
noncomputable def spL : List ByteArray → List Int → List Int × Bool
  | [], o => (o, true)
  | p :: r, o => if p.size = 16 then (if (cdig (fst8 p)).2 = true then (if (cdig (snd8 p)).2 = true then spL r (o ++ [cx (cdig (fst8 p)).1 (cdig (snd8 p)).1]) else ([], false)) else ([], false)) else ([], false)
theorem spec_list (P : List ByteArray) (hn : P.length ≤ 256) (d : Nat) : ∀ (k i : Nat) (o : List Int), i + d = P.length → o.length + d ≤ 1000 → d + 50 ≤ k →
    spec_l01CRead.l0 k o P (i : Int) = some (spL (P.drop i) o) := by
  induction d with
  | zero =>
    intro k i o hi ho hk
    obtain ⟨k, rfl⟩ : ∃ m, k = m + 1 := ⟨k - 1, by omega⟩
    have e1 : ¬ (i : Int) < (P.length : Int) := by omega
    simp only [spec_l01CRead.l0]
    rw [if_neg e1, List.drop_eq_nil_of_le (by omega)]
    rfl
  | succ d ih =>
    intro k i o hi ho hk
    obtain ⟨k, rfl⟩ : ∃ m, k = m + 1 := ⟨k - 1, by omega⟩
    have hl : i < P.length := by omega
    have e := List.drop_eq_getElem_cons hl
    have hr : rdOf ByteArray.empty P (i : Int) = P[i] := by
      unfold rdOf
      rw [Int.toNat_natCast, List.getD_eq_getElem?_getD, List.getElem?_eq_getElem hl]
      rfl
    generalize P[i] = p at hr e
    have e1 : (i : Int) < (P.length : Int) := by omega
    have e2 : (0 : Int) ≤ (i : Int) := by omega
    simp only [spec_l01CRead.l0]
    rw [if_pos e1, if_pos e2, hr, e]
    unfold spL
    by_cases hs : p.size = 16
    · have g1 : spec_l01Digits.f k (p.extract 0 8) = some (cdig (fst8 p)) := cdig_f _ (fst8_size p hs) k (by omega)
      have g2 : spec_l01Digits.f k (p.extract 8 p.size) = some (cdig (snd8 p)) := cdig_f _ (snd8_size p hs) k (by omega)
      rw [if_pos (by omega), if_pos hs, if_pos (by decide), if_pos (by omega), bind_is g1, bind_is g2]
      by_cases b1 : (cdig (fst8 p)).2 = true
      · rw [if_pos b1, if_pos b1]
        by_cases b2 : (cdig (snd8 p)).2 = true
        · rw [if_pos b2, if_pos b2, if_pos (by omega), wrap_nat i P.length (by omega) (by omega)]
          exact ih k (i + 1) _ (by omega) (by rw [List.length_append, List.length_singleton]; omega) (by omega)
        · rw [if_neg b2, if_neg b2]
      · rw [if_neg b1, if_neg b1]
    · rw [if_neg (by omega), if_neg hs]
/-- The number that the program reads out of eight bytes. -/
def hx (p : ByteArray) : Int := (((parseH 0 p.data.toList).getD 0 % 4294967296 : Nat) : Int)
theorem hx_ok (p : ByteArray) : okF (hx p) := by unfold hx okF; omega
theorem hx_dig (p : ByteArray) (n : Nat) (h : digL 0 p.data.toList = some n) (hn : n < 4294967296) : hx p = (n : Int) := by
  unfold hx
  rw [parse_dig _ _ _ h]
  simp only [Option.getD_some]
  omega
theorem hex_f (p : ByteArray) (h : p.size = 8) : impl_readHex.f p = some (hx p) := by unfold impl_readHex.f; rw [if_pos h]; rfl
theorem reI_cx (a b : Int) (h : 0 ≤ a) : reI (cx a b) = a := by unfold reI; rw [re_cx]; omega
theorem imI_cx (a b : Int) (h : 0 ≤ b) : imI (cx a b) = b := by unfold imI; rw [im_cx]; omega
noncomputable def H2 (c : Int) : List UInt8 := hexK 8 (nbits (reI c)) ++ hexK 8 (nbits (imI c))
noncomputable def T2 (c : Int) : ByteArray := T (reI c) ++ T (imI c)
theorem T2_list (c : Int) : (T2 c).data.toList = H2 c := by
  unfold T2 H2
  rw [app_data, Array.toList_append, T_list, T_list]
theorem H2_len (c : Int) : (H2 c).length = 16 := by unfold H2; rw [List.length_append, hexK_len, hexK_len]
theorem T2_size (c : Int) : (T2 c).size = 16 := by rw [Lib.size_eq, T2_list, H2_len]
abbrev okC2 (c : Int) : Prop := okF (reI c) ∧ okF (imI c)
abbrev okL2 (l : List Int) : Prop := ∀ c ∈ l, okC2 c
theorem tail_len (l : List Int) : (Lib.joinTail [44] (l.map H2)).length ≤ 22 * l.length := by
  induction l with
  | nil => simp [Lib.joinTail]
  | cons a r ih =>
    have h2 := H2_len a
    have e : Lib.joinTail [44] ((a :: r).map H2) = [44] ++ H2 a ++ Lib.joinTail [44] (r.map H2) := by simp [Lib.joinTail]
    rw [e]
    simp only [List.length_append, List.length_cons, List.length_nil]
    omega
/-- The text of a list. -/
noncomputable def text (x : List Int) : ByteArray := if x.length = 0 then ⟨#[110, 111, 110, 101]⟩ else ⟨(Lib.join (x.map H2) [44]).toArray⟩
theorem joined_f (xs : List Int) (hn : xs.length ≤ 256) : impl_joined.f (xs.map T2) = some (text xs) := by
  unfold impl_joined.f text
  rw [List.length_map]
  by_cases h : xs.length = 0
  · rw [if_pos (by omega), if_pos h]
  · rw [if_neg (by omega), if_neg h]
    have em : (xs.map T2).map (fun t => t.data.toList) = xs.map H2 := by
      rw [List.map_map]; apply List.map_congr_left; intro y _; exact T2_list y
    unfold strings_Join.f
    have ea : (⟨#[44]⟩ : ByteArray).data.toList = [44] := rfl
    rw [em, ea, List.length_map]
    have hl : (Lib.join (xs.map H2) [44]).length ≤ 140737488355328 := by
      cases xs with
      | nil => simp at h
      | cons a r =>
        rw [List.map_cons, Lib.join_cons]
        have h1 := H2_len a
        have h2 := tail_len r
        simp only [List.length_append, List.length_cons] at hn ⊢
        omega
    rw [if_pos ⟨by omega, hl⟩]
    rfl
theorem text_loop (x : List Int) (hn : x.length ≤ 256) (hin : okL2 x) (d : Nat) : ∀ (k : Nat) (i : Int) (a : List Int), 0 ≤ i → (x.length : Int) - i = d → d < k → a ++ x.drop i.toNat = x →
    impl_ComplexText.l0 k (a.map T2) x (x.length : Int) i = some (text x, true) := by
  induction d with
  | zero =>
    intro k i a h0 hd hk ha
    obtain ⟨k, rfl⟩ : ∃ m, k = m + 1 := ⟨k - 1, by omega⟩
    simp only [impl_ComplexText.l0]
    rw [List.drop_eq_nil_of_le (by omega), List.append_nil] at ha
    rw [if_neg (by omega), ha, joined_f x hn]
    rfl
  | succ d ih =>
    intro k i a h0 hd hk ha
    obtain ⟨k, rfl⟩ : ∃ m, k = m + 1 := ⟨k - 1, by omega⟩
    obtain ⟨g1, g2⟩ := hin _ (mem_rd x i h0 (by omega))
    have hla : a.length ≤ 256 := by have := congrArg List.length ha; simp at this; omega
    have hsz : (T (reI (rd x i))).size + (T (imI (rd x i))).size ≤ 9223372036854775807 := by rw [T_size, T_size]; decide
    simp only [impl_ComplexText.l0]
    rw [if_pos (by omega), if_pos h0, if_pos (by omega), bind_is (T_impl _ g1), bind_is (T_impl _ g2), if_pos hsz, if_pos (by rw [List.length_map]; omega), wrap_up (n := x.length) h0 (by omega) (by omega)]
    have := ih k (i + 1) (a ++ [rd x i]) (by omega) (by omega) (by omega) (by rw [List.append_assoc, List.singleton_append, ← drop_rd x i h0 (by omega)]; exact ha)
    rw [List.map_append] at this
    exact this
theorem impl_CT (x : List Int) (hn : x.length ≤ 256) (hin : okL2 x) (k : Nat) (hk : 400 ≤ k) : impl_ComplexText.f k x = some (text x, true) := by
  unfold impl_ComplexText.f
  rw [if_neg (by omega)]
  exact text_loop x hn hin x.length k 0 [] (by omega) (by omega) (by omega) (by simp)
/-- What the program reads out of pieces, ahead of the question whether its text is the same. -/
noncomputable def imL : List ByteArray → List Int → Option (List Int)
  | [], o => some o
  | p :: r, o => if p.size = 16 then (if o.length = 256 then none else imL r (o ++ [cx (hx (fst8 p)) (hx (snd8 p))])) else none
noncomputable def asked (s : ByteArray) : Option (List Int) → List Int × Bool
  | some o => if text o = s then (o, true) else ([], false)
  | none => ([], false)
theorem okC_cx (a b : ByteArray) : okC2 (cx (hx a) (hx b)) := by
  unfold okC2
  rw [reI_cx _ _ (hx_ok a).1, imI_cx _ _ (hx_ok b).1]
  exact ⟨hx_ok a, hx_ok b⟩
theorem okL_app (o : List Int) (h : okL2 o) (a b : ByteArray) : okL2 (o ++ [cx (hx a) (hx b)]) := by
  intro x hxm
  rcases List.mem_append.1 hxm with h1 | h1
  · exact h x h1
  · rw [List.mem_singleton.1 h1]; exact okC_cx a b
theorem impl_list (s : ByteArray) (P : List ByteArray) (hn : P.length ≤ 1048577) (d : Nat) : ∀ (k i : Nat) (o : List Int), i + d = P.length → o.length ≤ 256 → okL2 o → 2 * d + 500 ≤ k →
    impl_ReadComplex.l0 k s o P (P.length : Int) (i : Int) = some (asked s (imL (P.drop i) o)) := by
  induction d with
  | zero =>
    intro k i o hi ho hok hk
    obtain ⟨k, rfl⟩ : ∃ m, k = m + 1 := ⟨k - 1, by omega⟩
    have e1 : ¬ (i : Int) < (P.length : Int) := by omega
    simp only [impl_ReadComplex.l0]
    rw [if_neg e1, List.drop_eq_nil_of_le (by omega), impl_CT o ho hok k (by omega)]
    simp only [Option.bind_some, if_true]
    show _ = some (if text o = s then (o, true) else ([], false))
    by_cases h : text o = s
    · rw [if_pos (by rw [h]), if_pos h]
    · rw [if_neg (fun q => h (str_eq q)), if_neg h]
  | succ d ih =>
    intro k i o hi ho hok hk
    obtain ⟨k, rfl⟩ : ∃ m, k = m + 2 := ⟨k - 2, by omega⟩
    have hl : i < P.length := by omega
    have e := List.drop_eq_getElem_cons hl
    have hr : rdOf ByteArray.empty P (i : Int) = P[i] := by
      unfold rdOf
      rw [Int.toNat_natCast, List.getD_eq_getElem?_getD, List.getElem?_eq_getElem hl]
      rfl
    generalize P[i] = p at hr e
    have e1 : (i : Int) < (P.length : Int) := by omega
    have e2 : (0 : Int) ≤ (i : Int) := by omega
    simp only [impl_ReadComplex.l0]
    rw [if_pos e1, if_pos e2, if_pos e1, hr, e]
    unfold imL
    by_cases hs : p.size = 16
    · rw [if_pos (by omega), if_pos hs]
      by_cases h256 : o.length = 256
      · rw [if_pos h256, show ((o.length : Int) == 256) = true by simp; omega]
        simp only [impl_ReadComplex.j1]
        rw [if_pos trivial]; rfl
      · rw [if_neg h256, show ((o.length : Int) == 256) = false by simp; omega]
        simp only [impl_ReadComplex.j1]
        have g1 : impl_readHex.f (p.extract 0 8) = some (hx (fst8 p)) := hex_f _ (fst8_size p hs)
        have g2 : impl_readHex.f (p.extract 8 p.size) = some (hx (snd8 p)) := hex_f _ (snd8_size p hs)
        rw [if_neg (by decide), if_pos (by decide), if_pos (by omega), bind_is g1, bind_is g2, if_pos (by omega), wrap_nat i P.length (by omega) (by omega)]
        exact ih k (i + 1) _ (by omega) (by rw [List.length_append, List.length_singleton]; omega) (okL_app o hok _ _) (by omega)
    · rw [if_neg (by omega), if_neg hs]
      simp only [impl_ReadComplex.j1]
      rw [if_pos trivial]; rfl
def good (l : List Int) : Prop := ∀ c ∈ l, okC2 c ∧ (nbits (reI c) : Int) = reI c ∧ (nbits (imI c) : Int) = imI c ∧ cx (reI c) (imI c) = c
theorem cdig_yes (s : ByteArray) (hs : s.size = 8) (h : (cdig s).2 = true) : ∃ n : Nat, digL 0 s.data.toList = some n ∧ n < 4294967296 ∧ nbits (n : Int) = n ∧ s.data.toList = hexK 8 n ∧ (cdig s).1 = (n : Int) := by
  unfold cdig at h ⊢
  cases hd : digL 0 s.data.toList with
  | none => rw [hd] at h; cases h
  | some n =>
    rw [hd] at h
    obtain ⟨hlt, hk⟩ := hexK_dig 8 s.data.toList n (by rw [← Lib.size_eq]; exact hs) hd
    have hlt' := lt32 n hlt
    clear hlt
    have h' : (if nbits (n : Int) = n then ((n : Int), true) else (0, false)).2 = true := h
    by_cases hb : nbits (n : Int) = n
    · refine ⟨n, rfl, hlt', hb, hk, ?_⟩
      show (if nbits (n : Int) = n then ((n : Int), true) else (0, false)).1 = (n : Int)
      rw [if_pos hb]
    · rw [if_neg hb] at h'; cases h'
theorem cdig_T (s : ByteArray) (x : Int) (hx0 : okF x) (hf : (nbits x : Int) = x) (e : s.data.toList = hexK 8 (nbits x)) : cdig s = (x, true) ∧ hx s = x := by
  have hd : digL 0 s.data.toList = some (nbits x) := by rw [e]; exact dig_hexK 8 _ (nbits_lt x hx0)
  refine ⟨?_, by rw [hx_dig s (nbits x) hd (nbits_lt x hx0), hf]⟩
  unfold cdig
  rw [hd]
  show (if nbits (nbits x : Int) = nbits x then ((nbits x : Int), true) else (0, false)) = (x, true)
  rw [hf, if_pos rfl]
theorem halves (c : Int) : (fst8 (T2 c)).data.toList = hexK 8 (nbits (reI c)) ∧ (snd8 (T2 c)).data.toList = hexK 8 (nbits (imI c)) := by
  rw [fst8_list, snd8_list, T2_list]
  unfold H2
  exact ⟨by rw [List.take_left' (hexK_len 8 _)], by rw [List.drop_left' (hexK_len 8 _)]⟩
theorem spL_good (P : List ByteArray) : ∀ o l, spL P o = (l, true) → ∃ m, l = o ++ m ∧ m.length = P.length ∧ good m ∧ P = m.map T2 := by
  induction P with
  | nil =>
    intro o l h
    have h' : (o, true) = (l, true) := h
    injection h' with h1 _
    exact ⟨[], by rw [h1, List.append_nil], rfl, (fun x hx => by cases hx), rfl⟩
  | cons p r ih =>
    intro o l h
    unfold spL at h
    by_cases hs : p.size = 16
    · rw [if_pos hs] at h
      by_cases b1 : (cdig (fst8 p)).2 = true
      · rw [if_pos b1] at h
        by_cases b2 : (cdig (snd8 p)).2 = true
        · rw [if_pos b2] at h
          obtain ⟨m, e1, e2, e3, e4⟩ := ih _ _ h
          obtain ⟨n1, _, l1, f1, k1, v1⟩ := cdig_yes _ (fst8_size p hs) b1
          obtain ⟨n2, _, l2, f2, k2, v2⟩ := cdig_yes _ (snd8_size p hs) b2
          rw [v1, v2] at e1
          have r1 := reI_cx (n1 : Int) (n2 : Int) (by omega)
          have r2 := imI_cx (n1 : Int) (n2 : Int) (by omega)
          refine ⟨cx (n1 : Int) (n2 : Int) :: m, by rw [e1, List.append_assoc]; rfl, by rw [List.length_cons, List.length_cons, e2], ?_, ?_⟩
          · intro x hxm
            rcases List.mem_cons.1 hxm with rfl | hxm
            · refine ⟨?_, ?_, ?_, ?_⟩
              · unfold okC2; rw [r1, r2]; exact ⟨okF_nat n1 l1, okF_nat n2 l2⟩
              · rw [r1, f1]
              · rw [r2, f2]
              · rw [r1, r2]
            · exact e3 x hxm
          · rw [List.map_cons, ← e4]
            congr 1
            apply Go.WideShapes.bytes_inj
            rw [T2_list]
            unfold H2
            rw [r1, r2, f1, f2, ← k1, ← k2, fst8_list, snd8_list, List.take_append_drop]
        · rw [if_neg b2] at h; injection h with _ h; cases h
      · rw [if_neg b1] at h; injection h with _ h; cases h
    · rw [if_neg hs] at h; injection h with _ h; cases h
theorem spL_T (m : List Int) (h : good m) : ∀ o, spL (m.map T2) o = (o ++ m, true) := by
  induction m with
  | nil => intro o; rw [List.append_nil]; rfl
  | cons c r ih =>
    intro o
    obtain ⟨⟨g1, g2⟩, g3, g4, g5⟩ := h c List.mem_cons_self
    obtain ⟨q1, q2⟩ := halves c
    rw [List.map_cons]
    unfold spL
    rw [if_pos (T2_size c), (cdig_T _ _ g1 g3 q1).1, (cdig_T _ _ g2 g4 q2).1, if_pos rfl, if_pos rfl]
    show spL (r.map T2) (o ++ [cx (reI c) (imI c)]) = _
    rw [g5, ih (fun y hy => h y (List.mem_cons_of_mem _ hy)), List.append_assoc]
    rfl
theorem spL_false (P : List ByteArray) : ∀ o, (∀ l, spL P o ≠ (l, true)) → spL P o = ([], false) := by
  induction P with
  | nil => intro o h; exact absurd rfl (h o)
  | cons p r ih =>
    intro o h
    unfold spL at h ⊢
    by_cases hs : p.size = 16
    · rw [if_pos hs] at h ⊢
      by_cases b1 : (cdig (fst8 p)).2 = true
      · rw [if_pos b1] at h ⊢
        by_cases b2 : (cdig (snd8 p)).2 = true
        · rw [if_pos b2] at h ⊢
          exact ih _ h
        · rw [if_neg b2]
      · rw [if_neg b1]
    · rw [if_neg hs]
theorem imL_is (P : List ByteArray) : ∀ o l, imL P o = some l → l = o ++ P.map (fun p => cx (hx (fst8 p)) (hx (snd8 p))) := by
  induction P with
  | nil => intro o l h; injection h with h; rw [← h]; simp
  | cons p r ih =>
    intro o l h
    unfold imL at h
    by_cases hs : p.size = 16
    · rw [if_pos hs] at h
      by_cases h256 : o.length = 256
      · rw [if_pos h256] at h; cases h
      · rw [if_neg h256] at h
        rw [ih _ _ h, List.append_assoc]; rfl
    · rw [if_neg hs] at h; cases h
theorem imL_T (m : List Int) (h : good m) : ∀ o, o.length + m.length ≤ 256 → imL (m.map T2) o = some (o ++ m) := by
  induction m with
  | nil => intro o _; rw [List.append_nil]; rfl
  | cons c r ih =>
    intro o ho
    obtain ⟨⟨g1, g2⟩, g3, g4, g5⟩ := h c List.mem_cons_self
    obtain ⟨q1, q2⟩ := halves c
    rw [List.length_cons] at ho
    rw [List.map_cons]
    unfold imL
    rw [if_pos (T2_size c), if_neg (by omega), (cdig_T _ _ g1 g3 q1).2, (cdig_T _ _ g2 g4 q2).2, g5, ih (fun y hy => h y (List.mem_cons_of_mem _ hy)) _ (by rw [List.length_append, List.length_singleton]; omega), List.append_assoc]
    rfl
theorem no44_2 (c : Int) : ∀ b ∈ H2 c, b ≠ 44 := by
  intro b hb
  rcases List.mem_append.1 hb with hb | hb
  · exact no44 8 _ b hb
  · exact no44 8 _ b hb
theorem pcs_text (m : List Int) (h : m ≠ []) : pcs (text m) = m.map T2 := by
  cases m with
  | nil => exact absurd rfl h
  | cons a r =>
    unfold text pcs
    rw [if_neg (by simp)]
    have e : (⟨(Lib.join ((a :: r).map H2) [44]).toArray⟩ : ByteArray).data.toList = Lib.join ((a :: r).map H2) [44] := rfl
    have eT : ∀ y, (⟨(H2 y).toArray⟩ : ByteArray) = T2 y := fun y => by apply Go.WideShapes.bytes_inj; rw [T2_list]
    rw [e, List.map_cons, Lib.join_cons, cut_join]
    · rw [List.map_cons, List.map_map, List.map_cons, eT]
      congr 1
    · intro x hx b hb
      have : ∃ y, x = H2 y := by
        rcases List.mem_cons.1 hx with rfl | hx
        · exact ⟨a, rfl⟩
        · obtain ⟨y, _, rfl⟩ := List.mem_map.1 hx; exact ⟨y, rfl⟩
      obtain ⟨y, rfl⟩ := this
      exact no44_2 _ b hb
theorem text_pcs (s : ByteArray) (m : List Int) (h : m ≠ []) (e : pcs s = m.map T2) : text m = s := by
  apply Go.WideShapes.bytes_inj
  have hm : m.length ≠ 0 := fun q => h (List.eq_nil_of_length_eq_zero q)
  unfold text
  rw [if_neg hm]
  show Lib.join (m.map H2) [44] = s.data.toList
  have e2 : cutL 44 [] s.data.toList = m.map H2 := by
    have := congrArg (List.map (fun b : ByteArray => b.data.toList)) e
    unfold pcs at this
    rw [List.map_map, List.map_map] at this
    have e3 : (cutL 44 [] s.data.toList).map ((fun b : ByteArray => b.data.toList) ∘ fun l => (⟨l.toArray⟩ : ByteArray)) = cutL 44 [] s.data.toList := by
      conv => rhs; rw [← List.map_id (cutL 44 [] s.data.toList)]
      apply List.map_congr_left
      intro x _
      simp
    have e4 : m.map ((fun b : ByteArray => b.data.toList) ∘ T2) = m.map H2 := by
      apply List.map_congr_left
      intro x _
      exact T2_list x
    rw [e3, e4] at this
    exact this
  rw [← e2, join_cut]
  rfl
/-- The reference's answer is the program's. -/
theorem same_list (s : ByteArray) (hn : (pcs s).length ≤ 256) (hne : pcs s ≠ []) : spL (pcs s) [] = asked s (imL (pcs s) []) := by
  by_cases ex : ∃ l, spL (pcs s) [] = (l, true)
  · obtain ⟨l, h⟩ := ex
    obtain ⟨m, e1, e2, e3, e4⟩ := spL_good _ _ _ h
    rw [List.nil_append] at e1
    subst e1
    have hl : l ≠ [] := fun q => by subst q; rw [e4] at hne; exact hne rfl
    have him : imL (pcs s) [] = some l := by
      rw [e4, imL_T l e3 [] (by rw [e2]; simpa using hn), List.nil_append]
    rw [h, him]
    show (l, true) = if text l = s then (l, true) else ([], false)
    rw [if_pos (text_pcs s l hl e4)]
  · have hf := spL_false (pcs s) [] (fun l h => ex ⟨l, h⟩)
    rw [hf]
    cases him : imL (pcs s) [] with
    | none => rfl
    | some o =>
      show _ = if text o = s then (o, true) else ([], false)
      by_cases ht : text o = s
      · exfalso
        apply ex
        have e1 := imL_is _ _ _ him
        rw [List.nil_append] at e1
        have ho : o ≠ [] := by
          intro q
          rw [q] at e1
          exact hne (List.map_eq_nil_iff.1 e1.symm)
        have hp := pcs_text o ho
        rw [ht] at hp
        have hgood : good o := by
          intro c hc
          have e3 : o = o.map (fun x => cx (hx (fst8 (T2 x))) (hx (snd8 (T2 x)))) := by
            conv => lhs; rw [e1, hp, List.map_map]
            rfl
          obtain ⟨i, hi, rfl⟩ := List.mem_iff_getElem.1 hc
          have e4 : o[i] = cx (hx (fst8 (T2 o[i]))) (hx (snd8 (T2 o[i]))) := by
            have := congrArg (fun l => l[i]?) e3
            simp only [List.getElem?_map, List.getElem?_eq_getElem hi, Option.map_some] at this
            exact Option.some.inj this
          generalize o[i] = c at e4
          have r1 : reI c = hx (fst8 (T2 c)) := by conv => lhs; rw [e4]
                                                   exact reI_cx _ _ (hx_ok _).1
          have r2 : imI c = hx (snd8 (T2 c)) := by conv => lhs; rw [e4]
                                                   exact imI_cx _ _ (hx_ok _).1
          have o1 : okF (reI c) := by rw [r1]; exact hx_ok _
          have o2 : okF (imI c) := by rw [r2]; exact hx_ok _
          obtain ⟨q1, q2⟩ := halves c
          have d1 : digL 0 (fst8 (T2 c)).data.toList = some (nbits (reI c)) := by rw [q1]; exact dig_hexK 8 _ (nbits_lt _ o1)
          have d2 : digL 0 (snd8 (T2 c)).data.toList = some (nbits (imI c)) := by rw [q2]; exact dig_hexK 8 _ (nbits_lt _ o2)
          have n1 := hx_dig _ _ d1 (nbits_lt _ o1)
          have n2 := hx_dig _ _ d2 (nbits_lt _ o2)
          exact ⟨⟨o1, o2⟩, (r1.trans n1).symm, (r2.trans n2).symm, by rw [r1, r2]; exact e4.symm⟩
        exact ⟨[] ++ o, by rw [hp]; exact spL_T o hgood []⟩
      · rw [if_neg ht]
theorem spL_len (P : List ByteArray) : ∀ o, (spL P o).1.length ≤ o.length + P.length := by
  induction P with
  | nil => intro o; exact Nat.le_refl _
  | cons p r ih =>
    intro o
    unfold spL
    by_cases hs : p.size = 16
    · rw [if_pos hs]
      by_cases b1 : (cdig (fst8 p)).2 = true
      · rw [if_pos b1]
        by_cases b2 : (cdig (snd8 p)).2 = true
        · rw [if_pos b2]
          have := ih (o ++ [cx (cdig (fst8 p)).1 (cdig (snd8 p)).1])
          rw [List.length_append, List.length_singleton] at this
          rw [List.length_cons]; omega
        · rw [if_neg b2]; exact Nat.zero_le _
      · rw [if_neg b1]; exact Nat.zero_le _
    · rw [if_neg hs]; exact Nat.zero_le _
theorem imL_none (P : List ByteArray) : ∀ o, 256 < o.length + P.length → o.length ≤ 256 → imL P o = none := by
  induction P with
  | nil => intro o h1 h2; simp only [List.length_nil] at h1; omega
  | cons p r ih =>
    intro o h1 h2
    unfold imL
    by_cases hs : p.size = 16
    · rw [if_pos hs]
      by_cases h256 : o.length = 256
      · rw [if_pos h256]
      · rw [if_neg h256]
        rw [List.length_cons] at h1
        exact ih _ (by rw [List.length_append, List.length_singleton]; omega) (by rw [List.length_append, List.length_singleton]; omega)
    · rw [if_neg hs]
theorem pcs_ne (s : ByteArray) : pcs s ≠ [] := by
  obtain ⟨x, r, e⟩ := cutL_ne s.data.toList []
  unfold pcs
  rw [e]
  simp
theorem none_text (s : ByteArray) (h : s.toList = [110, 111, 110, 101]) : text [] = s := by
  apply Go.WideShapes.bytes_inj
  rw [← Lib.toList_data s, h]
  rfl
theorem read_same (s : ByteArray) (hs : s.size ≤ 1048576) (k : Nat) (hk : 2 * s.size + 20000 ≤ k) : ∃ r : List Int × Bool, spec_ReadComplex.f k s = some r ∧ impl_ReadComplex.f k s = some r ∧ r.1.length ≤ 256 := by
  have hn := pcs_len s
  unfold spec_ReadComplex.f spec_l01CRead.f impl_ReadComplex.f impl_pieces.f
  simp only [Option.bind_some]
  by_cases h : s.toList = [110, 111, 110, 101]
  · rw [if_pos h, if_pos h]
    refine ⟨([], true), rfl, ?_, by simp⟩
    simp only [Option.bind_some]
    have := impl_list s [] (by simp) 0 k 0 [] rfl (by simp) (fun x hx => by cases hx) (by omega)
    have e : asked s (imL (([] : List ByteArray).drop 0) []) = ([], true) := by
      show (if text [] = s then (([] : List Int), true) else ([], false)) = _
      rw [if_pos (none_text s h)]
    rw [e] at this
    exact this
  · rw [if_neg h, if_neg h, cut_f s hs k (by omega), split_f s hs k]
    simp only [Option.bind_some]
    have hi := impl_list s (pcs s) (by omega) (pcs s).length k 0 [] (by omega) (by simp) (fun x hx => by cases hx) (by omega)
    rw [List.drop_zero, show ((0 : Nat) : Int) = 0 from rfl] at hi
    rw [hi]
    by_cases g : ((pcs s).length : Int) > 256
    · rw [if_pos g, imL_none (pcs s) [] (by simp only [List.length_nil]; omega) (by simp)]
      exact ⟨([], false), rfl, rfl, by simp⟩
    · rw [if_neg g]
      have hsp := spec_list (pcs s) (by omega) (pcs s).length k 0 [] (by omega) (by simp only [List.length_nil]; omega) (by omega)
      rw [List.drop_zero, show ((0 : Nat) : Int) = 0 from rfl] at hsp
      rw [hsp]
      simp only [Option.bind_some]
      have hl := spL_len (pcs s) []
      refine ⟨spL (pcs s) [], rfl, ?_, by simp only [List.length_nil] at hl; omega⟩
      rw [same_list s (by omega) (pcs_ne s)]
theorem leO_some {α : Type} {a b : α} (h : LeO (some a) (some b)) : a = b := (Option.some.inj (h a rfl)).symm

end FnExactReadComplexParts
open FnExactReadComplexParts

theorem FnExactReadComplex (s : ByteArray) : ∃ k, laws_FnExactReadComplex.f k s = some true := by
  refine ⟨2118000 + 1 + 1, ?_⟩
  unfold laws_FnExactReadComplex.f
  by_cases h : (s.size : Int) > 1048576
  · rw [if_pos h]
  · rw [if_neg h]
    obtain ⟨⟨o, b⟩, h1, h2, hl⟩ := read_same s (by omega) (2118000 + 1 + 1) (by omega)
    obtain ⟨⟨o', b'⟩, h3, h4, hl'⟩ := read_same s (by omega) (2118000 + 1) (by omega)
    have e : (o', b') = (o, b) := by
      have q := impl_ReadComplex.mono s (2118000 + 1)
      rw [h4, h2] at q
      exact leO_some q
    injection e with e1 e2
    subst e1; subst e2
    have hl2 : o'.length ≤ 256 := hl
    obtain ⟨y, hy, hyl, hm⟩ := mark_f o' (by omega) (2118000 + 1) (by omega)
    rw [h1, h2]
    simp only [Option.bind_some]
    rw [eq_f o' (by omega) (2118000 + 1 + 1) (by omega)]
    simp only [Option.bind_some, if_true, bne_self_eq_false, laws_FnExactReadComplex.j0, Bool.false_eq_true, if_false]
    rw [hy]
    simp only [Option.bind_some]
    have hh := held_f y (by omega) hm (2118000 + 1) (by omega)
    rw [hh, hyl]
    simp only [Option.bind_some]
    rw [if_neg (by omega), if_pos trivial, h4]
    simp only [Option.bind_some]
    rw [eq_f o' (by omega) (2118000 + 1) (by omega)]
    simp only [Option.bind_some, if_true, bne_self_eq_false, laws_FnExactReadComplex.j1, Bool.false_eq_true, if_false]
    rw [held_f y (by omega) hm 2118000 (by omega), hyl]
    simp only [Option.bind_some]
    rw [if_neg (by omega), if_pos trivial]

/-- The walk, joined with the plain law. -/
theorem readComplexWalk (s : ByteArray) (w : World) (hs : s.size ≤ maxLen) (ht : Go.Proofs.YtpfjcfhgckpjmaaDoor.Hb.HT w) (he : Go.Proofs.YtpfjcfhgckpjmaaDoor.Hs.E1 w) (hp : Go.Proofs.YtpfjcfhgckpjmaaDoor.Hs.SP w) :
    Calls Tryd.prog 5 #[.string s] w fun e w' => e = .returned (.bool true) ∧ Below w.heap.size w w' := by
  obtain ⟨k, h⟩ := FnExactReadComplex s
  exact laws_FnExactReadComplex.calls k s true w ⟨ht, he, hp⟩ h

end Go.Proofs.YtpfjcfhgckpjmaaDoor.Pure
