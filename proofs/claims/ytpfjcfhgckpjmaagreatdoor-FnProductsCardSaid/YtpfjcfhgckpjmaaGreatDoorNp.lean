/- The plain law of FnExactReadComplex, over the functions beside: program and reference answer alike. No condition beyond the stated bounds. The text of complex numbers is read back, each part by its bits. Numbers that are integers: sums, differences, products and quotients of them are exact; widened, narrowed, compared. No program in sight. FnProducts: the functions on complex numbers that the law calls. FnProducts: small integers' products, quotients, powers and lengths; lists read back. FnProducts: the walk of the law. -/
import Derived.Test.YtpfjcfhgckpjmaaGreatDoorQFnExactReadComplexx6
import Derived.Test.YtpfjcfhgckpjmaaGreatDoorFd
import Derived.Test.YtpfjcfhgckpjmaaGreatDoorLg
import Derived.Test.YtpfjcfhgckpjmaaGreatDoorFw
import Derived.Test.YtpfjcfhgckpjmaaGreatDoorNn
import Derived.Test.YtpfjcfhgckpjmaaGreatDoorSc
import Derived.Deep.CutBlock
namespace Go.Proofs.YtpfjcfhgckpjmaaGreatDoor.Cq
open Go.RowKit Go.Proofs.YtpfjcfhgckpjmaaGreatDoor.QFnExactReadComplex Go.Proofs.YtpfjcfhgckpjmaaGreatDoorW.PrintWords Go.Proofs.YtpfjcfhgckpjmaaGreatDoorW.PrintLast
set_option linter.unusedSimpArgs false
set_option linter.unusedVariables false

namespace FnExactReadComplexParts
theorem rd_get (x : List Int) (i : Int) (h0 : 0 ≤ i) (h : i < (x.length : Int)) : x[i.toNat]? = some (rd x i) := by
  unfold rd
  rw [List.getD_eq_getElem?_getD, List.getElem?_eq_getElem (by omega)]
  rfl

theorem wrap_up {i : Int} {n : Nat} (h0 : 0 ≤ i) (h : i < (n : Int)) (hn : n ≤ 140737488351232) : wrap64 (i + 1) = i + 1 := by
  unfold wrap64; omega


theorem okI_small : ∀ n : Nat, n < 300 → Go.Proofs.YtpfjcfhgckpjmaaGreatDoor.Hc.okC (n : Int) = true := by decide +kernel
/-- What marking leaves: a, a + 1, .. -/
def Marked (a : Int) (x : List Int) : Prop := ∀ j : Nat, j < x.length → x[j]? = some (Go.Proofs.YtpfjcfhgckpjmaaGreatDoor.Hc.mkc (a + j))

open Go.Proofs.YtpfjcfhgckpjmaaGreatDoor.Ft Go.Proofs.YtpfjcfhgckpjmaaGreatDoor.Hx Go.Fl Ieee
/-- The bits of a single. -/
abbrev okF (x : Int) : Prop := 0 ≤ x ∧ x < 4294967296
/-- A number's bits: one of the many of no number. -/
def nbits (x : Int) : Nat := (bitsV (val .f32 x.toNat)).toNat
theorem bitsV_range (b : Nat) (h : b < 4294967296) : 0 ≤ bitsV (val .f32 b) ∧ bitsV (val .f32 b) < 4294967296 := by
  by_cases hn : FloatKind.f32.format.nan b = true
  · rw [val_nan hn]; decide
  · rw [val_num (by simpa using hn)]
    show 0 ≤ ((b : Nat) : Int) ∧ ((b : Nat) : Int) < 4294967296
    omega
theorem nbits_lt (x : Int) (h : okF x) : nbits x < 4294967296 := by have := bitsV_range x.toNat (by unfold okF at h; omega); unfold nbits; omega
theorem bits_f (x : Int) (h : okF x) : spec_l01Bits.f x = some (nbits x : Int) := by
  unfold spec_l01Bits.f nbits
  rw [if_pos h, Int.toNat_of_nonneg (bitsV_range x.toNat (by unfold okF at h; omega)).1]
theorem bitsI_f (x : Int) (h : okF x) : impl_BitsOf.f x = some (nbits x : Int) := by
  unfold impl_BitsOf.f nbits
  rw [if_pos h, Int.toNat_of_nonneg (bitsV_range x.toNat (by unfold okF at h; omega)).1]
/-- k hexadecimal digits. -/
def hexK : Nat → Nat → List UInt8
  | 0, _ => []
  | k + 1, n => hexK k (n / 16) ++ [hexd (n % 16)]
theorem hexK_len (k : Nat) : ∀ n, (hexK k n).length = k := by
  induction k with
  | zero => intro n; rfl
  | succ k ih => intro n; unfold hexK; rw [List.length_append, ih]; rfl
theorem hexK_zero (k : Nat) : hexK k 0 = List.replicate k 48 := by
  induction k with
  | zero => rfl
  | succ k ih =>
    unfold hexK
    rw [Nat.zero_div, Nat.zero_mod, ih, List.replicate_succ']
    rfl
theorem hex_pad (k : Nat) : ∀ n, n < 16 ^ (k + 1) → List.replicate (k + 1 - (hexDigits n).length) 48 ++ hexDigits n = hexK (k + 1) n := by
  induction k with
  | zero =>
    intro n h
    have h' : n < 16 := by simpa using h
    rw [hexDigits_small n h']
    unfold hexK hexK
    rw [Nat.mod_eq_of_lt h']
    rfl
  | succ k ih =>
    intro n h
    by_cases hs : n < 16
    · rw [hexDigits_small n hs]
      unfold hexK
      rw [Nat.div_eq_of_lt hs, hexK_zero, Nat.mod_eq_of_lt hs]
      rfl
    · have hq : n / 16 < 16 ^ (k + 1) := by rw [Nat.div_lt_iff_lt_mul (by decide)]; rw [← Nat.pow_succ]; exact h
      have hl := hexDigits_len k (n / 16) hq
      rw [hexDigits_big n (by omega), List.length_append, List.length_singleton]
      rw [show k + 1 + 1 - ((hexDigits (n / 16)).length + 1) = k + 1 - (hexDigits (n / 16)).length by omega, ← List.append_assoc, ih (n / 16) hq]
      conv => rhs; unfold hexK
/-- The text of a number. -/
def T (x : Int) : ByteArray := ⟨(hexK 8 (nbits x)).toArray⟩
theorem T_list (x : Int) : (T x).data.toList = hexK 8 (nbits x) := by simp [T]
theorem T_size (x : Int) : (T x).size = 8 := by
  rw [Lib.size_eq, T_list, hexK_len]
theorem rep_one (c : Nat) : Lib.repeatL [48] c = List.replicate c 48 := by
  induction c with
  | zero => rfl
  | succ c ih => rw [List.replicate_succ, ← ih]; rfl
theorem w8 (q : Nat) (h : q ≤ 8) : wrap64 (8 - (q : Int)) = ((8 - q : Nat) : Int) := by unfold wrap64; omega
theorem le8 (q : Nat) (h : q ≤ 8) : 8 - q + q ≤ 9223372036854775807 := by omega
theorem p16 : (16 : Nat) ^ (7 + 1) = 4294967296 := rfl
theorem fmt_f (n : Nat) (h : n < 4294967296) : strconv_FormatInt_31.f (n : Int) 16 = some ⟨(hexDigits n).toArray⟩ := by
  unfold strconv_FormatInt_31.f
  rw [if_pos ⟨rfl, by omega, by omega⟩, Int.toNat_natCast]
theorem rep_f (c : Nat) (h : c ≤ 8) : strings_Repeat.f ⟨#[48]⟩ (c : Int) = some ⟨(List.replicate c 48).toArray⟩ := by
  unfold strings_Repeat.f
  have h1 : (⟨#[48]⟩ : ByteArray).size = 1 := rfl
  rw [if_pos ⟨h1, by omega, by omega⟩, Int.toNat_natCast, rep_one]
theorem join_hex (n : Nat) (h : n < 4294967296) : (⟨(List.replicate (8 - (hexDigits n).length) 48).toArray⟩ : ByteArray) ++ ⟨(hexDigits n).toArray⟩ = ⟨(hexK 8 n).toArray⟩ := by
  apply Go.WideShapes.bytes_inj
  rw [ByteArray.data_append]
  show ((List.replicate (8 - (hexDigits n).length) 48).toArray ++ (hexDigits n).toArray).toList = (hexK 8 n).toArray.toList
  rw [Array.toList_append, List.toList_toArray, List.toList_toArray, List.toList_toArray]
  exact hex_pad 7 n (by rw [p16]; exact h)
theorem size_list (l : List UInt8) : (⟨l.toArray⟩ : ByteArray).size = l.length := by rw [Lib.size_eq]
theorem len8 (n : Nat) (h : n < 4294967296) : (hexDigits n).length ≤ 8 := hexDigits_len 7 n (by rw [p16]; exact h)
theorem bind_is {α β : Type} {o : Option α} {a : α} (h : o = some a) (f : α → Option β) : o.bind f = f a := by rw [h]; rfl
theorem T_hex (n : Nat) (h : n < 4294967296) : ((strconv_FormatInt_31.f (n : Int) 16).bind fun t148 => ((strings_Repeat.f (⟨#[48]⟩ : ByteArray) (wrap64 (8 - (t148.size : Int)))).bind fun t149 => (if t149.size + t148.size ≤ 9223372036854775807 then (some (t149 ++ t148)) else (none)))) = some (⟨(hexK 8 n).toArray⟩ : ByteArray) := by
  rw [fmt_f _ h]
  simp only [Option.bind_some]
  rw [size_list, w8 _ (len8 n h), rep_f _ (Nat.sub_le _ _)]
  simp only [Option.bind_some]
  rw [size_list, List.length_replicate, join_hex _ h, if_pos (le8 _ (len8 n h))]
theorem T_is (x : Int) : impl_hexOf.f x = (impl_BitsOf.f x).bind fun t147 => ((strconv_FormatInt_31.f t147 16).bind fun t148 => ((strings_Repeat.f (⟨#[48]⟩ : ByteArray) (wrap64 (8 - (t148.size : Int)))).bind fun t149 => (if t149.size + t148.size ≤ 9223372036854775807 then (some (t149 ++ t148)) else (none)))) := rfl
theorem T_impl (x : Int) (h : okF x) : impl_hexOf.f x = some (T x) :=
  (T_is x).trans ((bind_is (bitsI_f x h) _).trans (T_hex (nbits x) (nbits_lt x h)))
theorem and_i64 (a : Nat) (ha : a < 4294967296) : Go.bits .and .i64 (a : Int) 15 = ((a % 16 : Nat) : Int) := by
  have h1 : (BitVec.ofInt 64 (a : Int)).toNat = a := by
    rw [BitVec.ofInt_natCast, BitVec.toNat_ofNat]; exact Nat.mod_eq_of_lt (by omega)
  have h2 : (BitVec.ofInt 64 15).toNat = 15 := by decide
  have hx : a &&& 15 = a % 16 := Nat.and_two_pow_sub_one_eq_mod a 4
  show IntKind.i64.wrap ((BitVec.ofInt 64 (a : Int) &&& BitVec.ofInt 64 15).toNat : Int) = _
  rw [BitVec.toNat_and, h1, h2, hx]
  simp only [IntKind.wrap, IntKind.bits, IntKind.signed]
  have : a % 16 < 16 := Nat.mod_lt _ (by decide)
  generalize a % 16 = q at this
  simp
  omega
theorem nums_map (l : List UInt8) : strOfNums (l.map fun b => (b.toNat : Int)) = ⟨l.toArray⟩ := by
  unfold strOfNums
  congr 2
  rw [List.map_map]
  conv => rhs; rw [← List.map_id l]
  apply List.map_congr_left
  intro b _
  simp
theorem hexK_top (j : Nat) : ∀ n, hexK (j + 1) n = hexd (n / 16 ^ j % 16) :: hexK j n := by
  induction j with
  | zero =>
    intro n
    show [] ++ [hexd (n % 16)] = [hexd (n / 1 % 16)]
    rw [Nat.div_one]; rfl
  | succ j ih =>
    intro n
    have e : hexK (j + 1 + 1) n = hexK (j + 1) (n / 16) ++ [hexd (n % 16)] := rfl
    rw [e, ih (n / 16), Nat.div_div_eq_div_mul, Nat.pow_succ, Nat.mul_comm (16 ^ j) 16]
    rfl
/-- A list of singles' bits. -/
abbrev okL (l : List Int) : Prop := ∀ x ∈ l, okF x
theorem mem_rd (x : List Int) (i : Int) (h0 : 0 ≤ i) (h : i < (x.length : Int)) : rd x i ∈ x := by
  have := rd_get x i h0 h
  exact List.mem_of_getElem? this
theorem drop_rd (x : List Int) (i : Int) (h0 : 0 ≤ i) (h : i < (x.length : Int)) : x.drop i.toNat = rd x i :: x.drop (i + 1).toNat := by
  have hl : i.toNat < x.length := by omega
  rw [List.drop_eq_getElem_cons hl, show (i + 1).toNat = i.toNat + 1 by omega]
  congr 1
  have := rd_get x i h0 h
  rw [List.getElem?_eq_getElem hl] at this
  exact Option.some.inj this
def H (x : Int) : List UInt8 := hexK 8 (nbits x)
theorem app_data (a b : ByteArray) : (a ++ b).data = a.data ++ b.data := ByteArray.data_append
theorem H_len (x : Int) : (H x).length = 8 := hexK_len 8 _

theorem bt_get (s : ByteArray) (i : Int) (b : UInt8) (r : List UInt8) (h : s.data.toList.drop i.toNat = b :: r) : bt s i = (b.toNat : Int) ∧ i.toNat < s.size := by
  have hl : i.toNat < s.data.toList.length := by
    rcases Nat.lt_or_ge i.toNat s.data.toList.length with h' | h'
    · exact h'
    · rw [List.drop_eq_nil_of_le h'] at h; cases h
  have hs : i.toNat < s.size := by rw [Lib.size_eq]; exact hl
  refine ⟨?_, hs⟩
  rw [List.drop_eq_getElem_cons hl] at h
  injection h with h1 h2
  unfold bt
  rw [dif_pos hs, ← h1]
  rfl
theorem str_eq {a b : ByteArray} (h : a.toList = b.toList) : a = b := by
  rw [ByteArray.toList_eq, ByteArray.toList_eq] at h
  exact Go.WideShapes.bytes_inj h
/-- A text cut at a byte; p is the piece that is being built. -/
def cutL (c : UInt8) : List UInt8 → List UInt8 → List (List UInt8)
  | p, [] => [p]
  | p, b :: l => if b = c then p :: cutL c [] l else cutL c (p ++ [b]) l
theorem splitK_ne (c : UInt8) (k : Nat) (l : List UInt8) : ∃ x r, Lib.splitK [c] 0 k l = x :: r := by
  cases k with
  | zero => exact ⟨_, _, rfl⟩
  | succ k =>
    unfold Lib.splitK
    split
    · exact ⟨_, _, rfl⟩
    · exact ⟨_, _, rfl⟩
theorem splitK_skip (c b : UInt8) (h : b ≠ c) (k : Nat) (l : List UInt8) (x : List UInt8) (r : List (List UInt8)) (e : Lib.splitK [c] 0 k l = x :: r) : Lib.splitK [c] 0 k (b :: l) = (b :: x) :: r := by
  cases k with
  | zero =>
    have e' : [l] = x :: r := e
    injection e' with e1 e2
    subst e1; subst e2
    rfl
  | succ k =>
    have hp : ([c] : List UInt8).isPrefixOf (b :: l) = false := by simp [List.isPrefixOf, Ne.symm h]
    have hix : Lib.index (b :: l) [c] = if Lib.index l [c] == -1 then -1 else Lib.index l [c] + 1 := by rw [Lib.index, hp]; simp
    by_cases hm : Lib.index l [c] = -1
    · rw [Lib.splitK, if_pos (beq_iff_eq.2 hm)] at e
      rw [Lib.splitK, if_pos (beq_iff_eq.2 (by rw [hix, if_pos (beq_iff_eq.2 hm)]))]
      injection e with e1 e2
      subst e1; subst e2
      rfl
    · have hge := Lib.index_ge l [c]
      obtain ⟨j, hj⟩ : ∃ j : Nat, Lib.index l [c] = j := ⟨(Lib.index l [c]).toNat, by omega⟩
      have hix' : Lib.index (b :: l) [c] = ((j + 1 : Nat) : Int) := by rw [hix, if_neg (fun e => hm (beq_iff_eq.1 e)), hj]; omega
      rw [Lib.splitK, if_neg (fun q => hm (beq_iff_eq.1 q)), hj] at e
      rw [Lib.splitK, if_neg (fun q => by have := beq_iff_eq.1 q; rw [hix'] at this; omega), hix']
      simp only [Int.toNat_natCast, Nat.add_zero, List.length_singleton, List.take_succ_cons] at e ⊢
      injection e with e1 e2
      rw [e1, show j + 1 + 1 = (j + 1) + 1 from rfl, List.drop_succ_cons, e2]
theorem cutL_split (c : UInt8) (l : List UInt8) : ∀ p : List UInt8, ∀ x r, Lib.splitK [c] 0 (Lib.count l [c]) l = x :: r → cutL c p l = (p ++ x) :: r := by
  induction l with
  | nil =>
    intro p x r e
    have e0 : Lib.count [] [c] = 0 := by rw [Lib.count_one]; rfl
    rw [e0] at e
    have e' : [([] : List UInt8)] = x :: r := e
    injection e' with e1 e2
    subst e1; subst e2
    simp [cutL]
  | cons b l ih =>
    intro p x r e
    by_cases h : b = c
    · subst h
      rw [Lib.count_cons_eq, Nat.add_comm, Lib.splitK] at e
      have hix : Lib.index (b :: l) [b] = 0 := by rw [Lib.index]; simp [List.isPrefixOf]
      rw [if_neg (by rw [hix]; decide), hix] at e
      simp only [Int.toNat_zero, Nat.add_zero, List.length_singleton, List.take_zero, Nat.zero_add, List.drop_succ_cons, List.drop_zero] at e
      injection e with e1 e2
      subst e1
      obtain ⟨y, t, ey⟩ := splitK_ne b (Lib.count l [b]) l
      have := ih [] y t ey
      unfold cutL
      rw [if_pos rfl, this, List.append_nil, List.nil_append, ← ey, e2]
    · rw [Lib.count_cons_ne b c l h] at e
      obtain ⟨y, t, ey⟩ := splitK_ne c (Lib.count l [c]) l
      rw [splitK_skip c b h _ l y t ey] at e
      injection e with e1 e2
      subst e1; subst e2
      unfold cutL
      rw [if_neg h, ih (p ++ [b]) y t ey, List.append_assoc]
      rfl
theorem cutL_len (c : UInt8) (l : List UInt8) : ∀ p, (cutL c p l).length ≤ l.length + 1 := by
  induction l with
  | nil => intro p; simp [cutL]
  | cons b l ih =>
    intro p
    unfold cutL
    split
    · have := ih []; simp only [List.length_cons]; omega
    · have := ih (p ++ [b]); simp only [List.length_cons]; omega
theorem cutL_piece (c : UInt8) (l : List UInt8) : ∀ p, ∀ x ∈ cutL c p l, x.length ≤ p.length + l.length := by
  induction l with
  | nil => intro p x hx; simp [cutL] at hx; subst hx; omega
  | cons b l ih =>
    intro p x hx
    unfold cutL at hx
    split at hx
    · rcases List.mem_cons.1 hx with rfl | hx
      · omega
      · have := ih [] x hx; simp only [List.length_cons, List.length_nil] at *; omega
    · have := ih (p ++ [b]) x hx; simp only [List.length_cons, List.length_append, List.length_nil] at *; omega
/-- The pieces of a text. -/
def pcs (s : ByteArray) : List ByteArray := (cutL 44 [] s.data.toList).map fun l => ⟨l.toArray⟩
theorem pcs_len (s : ByteArray) : (pcs s).length ≤ s.size + 1 := by
  unfold pcs
  rw [List.length_map, Lib.size_eq]
  exact cutL_len _ _ _
theorem pcs_size (s : ByteArray) : ∀ x ∈ pcs s, x.size ≤ s.size := by
  intro x hx
  obtain ⟨l, hl, rfl⟩ := List.mem_map.1 hx
  have := cutL_piece 44 s.data.toList [] l hl
  rw [Lib.size_eq, Lib.size_eq]
  simpa using this
theorem back (l : List ByteArray) : (l.map (·.data.toList)).map (fun x => (⟨x.toArray⟩ : ByteArray)) = l := by
  rw [List.map_map]
  conv => rhs; rw [← List.map_id l]
  apply List.map_congr_left
  intro x _
  simp
theorem pcs_split (s : ByteArray) : Lib.splitB ⟨#[44]⟩ 0 (Lib.countB s ⟨#[44]⟩) s = pcs s := by
  have e := Lib.splitB_data ⟨#[44]⟩ 0 (Lib.countB s ⟨#[44]⟩) s
  obtain ⟨x, r, ex⟩ := splitK_ne 44 (Lib.count s.data.toList [44]) s.data.toList
  have h := cutL_split 44 s.data.toList [] x r ex
  have e2 : Lib.splitK [44] 0 (Lib.count s.data.toList [44]) s.data.toList = cutL 44 [] s.data.toList := by rw [h, ex]; rfl
  have e3 : (Lib.splitB ⟨#[44]⟩ 0 (Lib.countB s ⟨#[44]⟩) s).map (·.data.toList) = cutL 44 [] s.data.toList := e.trans e2
  rw [← back (Lib.splitB ⟨#[44]⟩ 0 (Lib.countB s ⟨#[44]⟩) s), e3]
  rfl
theorem take_more (l : List UInt8) (f i : Nat) (b : UInt8) (r : List UInt8) (hf : f ≤ i) (e : l.drop i = b :: r) : (l.drop f).take (i + 1 - f) = (l.drop f).take (i - f) ++ [b] := by
  have hl : i < l.length := by
    rcases Nat.lt_or_ge i l.length with h' | h'
    · exact h'
    · rw [List.drop_eq_nil_of_le h'] at e; cases e
  rw [List.drop_eq_getElem_cons hl] at e
  injection e with e1 _
  rw [show i + 1 - f = (i - f) + 1 by omega, List.take_succ_eq_append_getElem (by rw [List.length_drop]; omega)]
  congr 2
  rw [List.getElem_drop, ← e1]
  congr 1; omega
theorem ext_mk (s : ByteArray) (f i : Nat) : s.extract f i = ⟨((s.data.toList.drop f).take (i - f)).toArray⟩ := by
  apply str_eq
  rw [Lib.toList_data, Lib.toList_data, Lib.extract_data]
theorem wrap_nat (i n : Nat) (h : i ≤ n) (hn : n ≤ 140737488351232) : wrap64 ((i : Int) + 1) = ((i + 1 : Nat) : Int) := by unfold wrap64; omega
theorem split_f (s : ByteArray) (hs : s.size ≤ 1048576) (k : Nat) : strings_Split.f k s ⟨#[44]⟩ = some (pcs s) := by
  unfold strings_Split.f
  rw [if_pos ⟨by omega, by decide⟩, pcs_split]

open Go.Proofs.YtpfjcfhgckpjmaaGreatDoor.Px
/-- What a byte is worth as the reference reads it. -/
def ld (c : UInt8) : Option Nat := if 48 ≤ c.toNat ∧ c.toNat ≤ 57 then some (c.toNat - 48) else if 97 ≤ c.toNat ∧ c.toNat ≤ 102 then some (c.toNat - 87) else none
def digL : Nat → List UInt8 → Option Nat
  | acc, [] => some acc
  | acc, c :: r => match ld c with
    | some d => digL (acc * 16 + d) r
    | none => none
theorem ld_lt (c : UInt8) (d : Nat) (h : ld c = some d) : d < 16 := by
  unfold ld at h
  split at h
  · injection h with h; omega
  · split at h
    · injection h with h; omega
    · cases h
theorem low32 : ∀ n : Nat, n < 256 → 97 ≤ n → n ≤ 102 → (n ||| 32) = n := by decide +kernel
theorem hv_ld (c : UInt8) (d : Nat) (h : ld c = some d) : hv c = some d := by
  unfold ld at h
  unfold hv
  split at h
  · rename_i q; rw [if_pos q]; exact h
  · rename_i q
    split at h
    · rename_i p
      rw [if_neg q, low32 c.toNat c.toNat_lt p.1 p.2, if_pos p]; exact h
    · cases h
theorem parse_dig (l : List UInt8) : ∀ acc v, digL acc l = some v → parseH acc l = some v := by
  induction l with
  | nil => intro acc v h; exact h
  | cons c r ih =>
    intro acc v h
    unfold digL at h
    unfold parseH
    cases e : ld c with
    | none => rw [e] at h; cases h
    | some d =>
      rw [e] at h
      rw [hv_ld c d e]
      exact ih _ _ h
theorem ld_hexd (d : Nat) (h : d < 16) : ld (hexd d) = some d := by
  match d, h with
  | 0, _ => rfl
  | 1, _ => rfl
  | 2, _ => rfl
  | 3, _ => rfl
  | 4, _ => rfl
  | 5, _ => rfl
  | 6, _ => rfl
  | 7, _ => rfl
  | 8, _ => rfl
  | 9, _ => rfl
  | 10, _ => rfl
  | 11, _ => rfl
  | 12, _ => rfl
  | 13, _ => rfl
  | 14, _ => rfl
  | 15, _ => rfl
  | k + 16, hk => exact absurd hk (by omega)
theorem hexd_ld (c : UInt8) (d : Nat) (h : ld c = some d) : hexd d = c := by
  unfold ld at h
  apply UInt8.toNat_inj.1
  unfold hexd
  split at h
  · injection h with h
    subst h
    rw [if_pos (by omega), UInt8.toNat_ofNat']; omega
  · split at h
    · injection h with h
      subst h
      rw [if_neg (by omega), UInt8.toNat_ofNat']; omega
    · cases h
theorem hexd_no44 (d : Nat) (h : d < 16) : hexd d ≠ 44 := by
  intro e
  have := ld_hexd d h
  rw [e] at this
  cases this
theorem digL_snoc (l : List UInt8) (c : UInt8) : ∀ acc, digL acc (l ++ [c]) = match digL acc l with
    | some v => match ld c with
      | some d => some (v * 16 + d)
      | none => none
    | none => none := by
  induction l with
  | nil =>
    intro acc
    show digL acc [c] = match some acc with | some v => _ | none => none
    unfold digL
    cases ld c with
    | none => rfl
    | some d => rfl
  | cons b r ih =>
    intro acc
    show digL acc (b :: (r ++ [c])) = _
    unfold digL
    cases ld b with
    | none => rfl
    | some d => exact ih _
theorem dig_hexK (j : Nat) : ∀ n, n < 16 ^ j → digL 0 (hexK j n) = some n := by
  induction j with
  | zero => intro n h; have : n = 0 := by simpa using h
            subst this; rfl
  | succ j ih =>
    intro n h
    have hq : n / 16 < 16 ^ j := by rw [Nat.div_lt_iff_lt_mul (by decide)]; rw [← Nat.pow_succ]; exact h
    have e : hexK (j + 1) n = hexK j (n / 16) ++ [hexd (n % 16)] := rfl
    rw [e, digL_snoc, ih _ hq, ld_hexd _ (Nat.mod_lt _ (by decide))]
    show some (n / 16 * 16 + n % 16) = some n
    congr 1; omega
theorem hexK_dig (j : Nat) : ∀ l v, l.length = j → digL 0 l = some v → v < 16 ^ j ∧ l = hexK j v := by
  induction j with
  | zero =>
    intro l v hl h
    have := List.eq_nil_of_length_eq_zero hl
    subst this
    have e : some 0 = some v := h
    injection e with e
    subst e
    exact ⟨by decide, rfl⟩
  | succ j ih =>
    intro l v hl h
    rcases List.eq_nil_or_concat l with e | ⟨l', c, e⟩
    · subst e; simp at hl
    · have e' : l = l' ++ [c] := by simpa using e
      subst e'
      rw [List.length_append, List.length_singleton] at hl
      rw [digL_snoc] at h
      cases e1 : digL 0 l' with
      | none => rw [e1] at h; cases h
      | some q =>
        rw [e1] at h
        cases e2 : ld c with
        | none => rw [e2] at h; cases h
        | some d =>
          rw [e2] at h
          have h' : some (q * 16 + d) = some v := h
          injection h' with h'
          subst h'
          obtain ⟨h1, h2⟩ := ih l' q (by omega) e1
          have hd := ld_lt c d e2
          refine ⟨by rw [Nat.pow_succ]; omega, ?_⟩
          have e3 : hexK (j + 1) (q * 16 + d) = hexK j ((q * 16 + d) / 16) ++ [hexd ((q * 16 + d) % 16)] := rfl
          rw [e3, show (q * 16 + d) / 16 = q by omega, show (q * 16 + d) % 16 = d by omega, hexd_ld c d e2, ← h2]
theorem no44 (k n : Nat) : ∀ b ∈ hexK k n, b ≠ 44 := by
  induction k generalizing n with
  | zero => intro b hb; cases hb
  | succ k ih =>
    intro b hb
    rcases List.mem_append.1 hb with hb | hb
    · exact ih _ b hb
    · rw [List.mem_singleton.1 hb]; exact hexd_no44 _ (Nat.mod_lt _ (by decide))
theorem join_tail (x : List UInt8) (r : List (List UInt8)) : Lib.joinTail [44] (x :: r) = 44 :: (x ++ Lib.joinTail [44] r) := by simp [Lib.joinTail]
theorem cutL_ne (l : List UInt8) : ∀ p, ∃ x r, cutL 44 p l = x :: r := by
  induction l with
  | nil => intro p; exact ⟨_, _, rfl⟩
  | cons b l ih =>
    intro p
    unfold cutL
    split
    · exact ⟨_, _, rfl⟩
    · exact ih _
theorem join_cut (l : List UInt8) : ∀ p, Lib.join (cutL 44 p l) [44] = p ++ l := by
  induction l with
  | nil => intro p; unfold cutL; rw [Lib.join_cons]; simp [Lib.joinTail]
  | cons b l ih =>
    intro p
    unfold cutL
    split
    · rename_i h
      subst h
      obtain ⟨x, r, e⟩ := cutL_ne l []
      have := ih []
      rw [e, Lib.join_cons] at this
      rw [Lib.join_cons, e, join_tail, this]
      rfl
    · rw [ih, List.append_assoc]; rfl
theorem cutL_app (a : List UInt8) : ∀ p t, (∀ b ∈ a, b ≠ 44) → cutL 44 p (a ++ t) = cutL 44 (p ++ a) t := by
  induction a with
  | nil => intro p t _; rw [List.nil_append, List.append_nil]
  | cons b a ih =>
    intro p t h
    show cutL 44 p (b :: (a ++ t)) = _
    conv => lhs; unfold cutL
    rw [if_neg (h b List.mem_cons_self), ih _ _ (fun c hc => h c (List.mem_cons_of_mem _ hc)), List.append_assoc]
    rfl
theorem cut_join (r : List (List UInt8)) : ∀ a, (∀ x ∈ a :: r, ∀ b ∈ x, b ≠ 44) → cutL 44 [] (a ++ Lib.joinTail [44] r) = a :: r := by
  induction r with
  | nil =>
    intro a h
    rw [cutL_app a [] _ (h a List.mem_cons_self)]
    rfl
  | cons x r ih =>
    intro a h
    rw [cutL_app a [] _ (h a List.mem_cons_self), join_tail, List.nil_append]
    conv => lhs; unfold cutL
    rw [if_pos rfl, ih x (fun y hy => h y (List.mem_cons_of_mem _ hy))]
theorem dw1 (v z : Nat) (hv : v < 268435456) (h1 : 48 ≤ z) (h2 : z ≤ 57) : wrap64 (wrap64 (16 * (v : Int)) + ((z : Int) - 48) % 256) = ((v * 16 + (z - 48) : Nat) : Int) := by
  have e1 : ((z : Int) - 48) % 256 = (z : Int) - 48 := by omega
  have e2 : wrap64 (16 * (v : Int)) = 16 * (v : Int) := by unfold wrap64; omega
  have e3 : wrap64 (16 * (v : Int) + ((z : Int) - 48)) = 16 * (v : Int) + ((z : Int) - 48) := by unfold wrap64; omega
  rw [e1, e2, e3]; omega
theorem dw2 (v z : Nat) (hv : v < 268435456) (h1 : 97 ≤ z) (h2 : z ≤ 102) : wrap64 (wrap64 (16 * (v : Int)) + (((z : Int) - 97) % 256 + 10)) = ((v * 16 + (z - 87) : Nat) : Int) := by
  have e1 : ((z : Int) - 97) % 256 = (z : Int) - 97 := by omega
  have e2 : wrap64 (16 * (v : Int)) = 16 * (v : Int) := by unfold wrap64; omega
  have e3 : wrap64 (16 * (v : Int) + ((z : Int) - 97 + 10)) = 16 * (v : Int) + ((z : Int) - 97 + 10) := by unfold wrap64; omega
  rw [e1, e2, e3]; omega
theorem nn1 (z : Nat) (h : z < 256) : ¬ ((z : Int) - 48) % 256 < 0 := by omega
theorem nn2 (z : Nat) (h : z < 256) : ¬ ((z : Int) - 97) % 256 + 10 < 0 := by omega
theorem up8 (j : Nat) (h : j < 8) : wrap64 ((j : Int) + 1) = ((j + 1 : Nat) : Int) := by unfold wrap64; omega
theorem below7 (v j : Nat) (h : v < 16 ^ j) (hj : j < 8) : v < 268435456 := by
  have h7 : (16 : Nat) ^ j ≤ 16 ^ 7 := Nat.pow_le_pow_right (by decide) (by omega)
  exact Nat.lt_of_lt_of_le h h7
theorem pw16 (v d q : Nat) (h : v < q) (hd : d < 16) : v * 16 + d < q * 16 := by omega
theorem lt32 (n : Nat) (h : n < 16 ^ 8) : n < 4294967296 := h

open Go.Proofs.YtpfjcfhgckpjmaaGreatDoor.Hc
theorem okF_nat (n : Nat) (h : n < 4294967296) : okF (n : Int) := by unfold okF; omega
theorem from_f (x : Int) (h : okF x) : spec_l01From.f x = some x := by unfold spec_l01From.f; rw [if_pos h]
/-- What the reference tells of eight digits. -/
def cdig (s : ByteArray) : Int × Bool :=
  match digL 0 s.data.toList with
  | some n => if nbits (n : Int) = n then ((n : Int), true) else (0, false)
  | none => (0, false)
def ctook (n : Nat) : Option (Int × Bool) := (spec_l01From.f (n : Int)).bind fun t110 => ((spec_l01Bits.f t110).bind fun t111 => (if t111 = (n : Int) then (some (t110, true)) else (some (0, false))))
theorem ctook_is (n : Nat) (h : n < 4294967296) : ctook n = some (if nbits (n : Int) = n then ((n : Int), true) else (0, false)) := by
  unfold ctook
  rw [bind_is (from_f _ (okF_nat n h)), bind_is (bits_f _ (okF_nat n h))]
  by_cases hb : nbits (n : Int) = n
  · rw [if_pos (by rw [hb]), if_pos hb]
  · rw [if_neg (fun q => hb (by omega)), if_neg hb]
/-- The halves of a piece. -/
def fst8 (p : ByteArray) : ByteArray := p.extract 0 8
def snd8 (p : ByteArray) : ByteArray := p.extract 8 p.size
theorem fst8_list (p : ByteArray) : (fst8 p).data.toList = p.data.toList.take 8 := by unfold fst8; rw [Lib.extract_data]; rfl
theorem snd8_list (p : ByteArray) : (snd8 p).data.toList = p.data.toList.drop 8 := by
  unfold snd8
  rw [Lib.extract_data, List.take_of_length_le]
  rw [List.length_drop, Lib.size_eq]
  omega
theorem fst8_size (p : ByteArray) (h : p.size = 16) : (fst8 p).size = 8 := by
  rw [Lib.size_eq, fst8_list, List.length_take, ← Lib.size_eq, h]; rfl
theorem snd8_size (p : ByteArray) (h : p.size = 16) : (snd8 p).size = 8 := by
  rw [Lib.size_eq, snd8_list, List.length_drop, ← Lib.size_eq, h]
/-- What the reference reads out of pieces. -/
noncomputable def spL : List ByteArray → List Int → List Int × Bool
  | [], o => (o, true)
  | p :: r, o => if p.size = 16 then (if (cdig (fst8 p)).2 = true then (if (cdig (snd8 p)).2 = true then spL r (o ++ [cx (cdig (fst8 p)).1 (cdig (snd8 p)).1]) else ([], false)) else ([], false)) else ([], false)
/-- The number that the program reads out of eight bytes. -/
def hx (p : ByteArray) : Int := (((parseH 0 p.data.toList).getD 0 % 4294967296 : Nat) : Int)
theorem hx_ok (p : ByteArray) : okF (hx p) := by unfold hx okF; omega
theorem hx_dig (p : ByteArray) (n : Nat) (h : digL 0 p.data.toList = some n) (hn : n < 4294967296) : hx p = (n : Int) := by
  unfold hx
  rw [parse_dig _ _ _ h]
  simp only [Option.getD_some]
  omega
theorem hex_f (p : ByteArray) (h : p.size = 8) : impl_readHex.f p = some (hx p) := by unfold impl_readHex.f; rw [if_pos h]; rfl
theorem reI_cx (a b : Int) (h : 0 ≤ a) : reI (cx a b) = a := by unfold reI; rw [re_cx]; omega
theorem imI_cx (a b : Int) (h : 0 ≤ b) : imI (cx a b) = b := by unfold imI; rw [im_cx]; omega
noncomputable def H2 (c : Int) : List UInt8 := hexK 8 (nbits (reI c)) ++ hexK 8 (nbits (imI c))
noncomputable def T2 (c : Int) : ByteArray := T (reI c) ++ T (imI c)
theorem T2_list (c : Int) : (T2 c).data.toList = H2 c := by
  unfold T2 H2
  rw [app_data, Array.toList_append, T_list, T_list]
theorem H2_len (c : Int) : (H2 c).length = 16 := by unfold H2; rw [List.length_append, hexK_len, hexK_len]
theorem T2_size (c : Int) : (T2 c).size = 16 := by rw [Lib.size_eq, T2_list, H2_len]
abbrev okC2 (c : Int) : Prop := okF (reI c) ∧ okF (imI c)
abbrev okL2 (l : List Int) : Prop := ∀ c ∈ l, okC2 c
theorem tail_len (l : List Int) : (Lib.joinTail [44] (l.map H2)).length ≤ 22 * l.length := by
  induction l with
  | nil => simp [Lib.joinTail]
  | cons a r ih =>
    have h2 := H2_len a
    have e : Lib.joinTail [44] ((a :: r).map H2) = [44] ++ H2 a ++ Lib.joinTail [44] (r.map H2) := by simp [Lib.joinTail]
    rw [e]
    simp only [List.length_append, List.length_cons, List.length_nil]
    omega
/-- The text of a list. -/
noncomputable def text (x : List Int) : ByteArray := if x.length = 0 then ⟨#[110, 111, 110, 101]⟩ else ⟨(Lib.join (x.map H2) [44]).toArray⟩
theorem joined_f (xs : List Int) (hn : xs.length ≤ 256) : impl_joined.f (xs.map T2) = some (text xs) := by
  unfold impl_joined.f text
  rw [List.length_map]
  by_cases h : xs.length = 0
  · rw [if_pos (by omega), if_pos h]
  · rw [if_neg (by omega), if_neg h]
    have em : (xs.map T2).map (fun t => t.data.toList) = xs.map H2 := by
      rw [List.map_map]; apply List.map_congr_left; intro y _; exact T2_list y
    unfold strings_Join.f
    have ea : (⟨#[44]⟩ : ByteArray).data.toList = [44] := rfl
    rw [em, ea, List.length_map]
    have hl : (Lib.join (xs.map H2) [44]).length ≤ 140737488355328 := by
      cases xs with
      | nil => simp at h
      | cons a r =>
        rw [List.map_cons, Lib.join_cons]
        have h1 := H2_len a
        have h2 := tail_len r
        simp only [List.length_append, List.length_cons] at hn ⊢
        omega
    rw [if_pos ⟨by omega, hl⟩]
    rfl
theorem text_loop (x : List Int) (hn : x.length ≤ 256) (hin : okL2 x) (d : Nat) : ∀ (k : Nat) (i : Int) (a : List Int), 0 ≤ i → (x.length : Int) - i = d → d < k → a ++ x.drop i.toNat = x →
    impl_ComplexText.l0 k (a.map T2) x (x.length : Int) i = some (text x, true) := by
  induction d with
  | zero =>
    intro k i a h0 hd hk ha
    obtain ⟨k, rfl⟩ : ∃ m, k = m + 1 := ⟨k - 1, by omega⟩
    simp only [impl_ComplexText.l0]
    rw [List.drop_eq_nil_of_le (by omega), List.append_nil] at ha
    rw [if_neg (by omega), ha, joined_f x hn]
    rfl
  | succ d ih =>
    intro k i a h0 hd hk ha
    obtain ⟨k, rfl⟩ : ∃ m, k = m + 1 := ⟨k - 1, by omega⟩
    obtain ⟨g1, g2⟩ := hin _ (mem_rd x i h0 (by omega))
    have hla : a.length ≤ 256 := by have := congrArg List.length ha; simp at this; omega
    have hsz : (T (reI (rd x i))).size + (T (imI (rd x i))).size ≤ 9223372036854775807 := by rw [T_size, T_size]; decide
    simp only [impl_ComplexText.l0]
    rw [if_pos (by omega), if_pos h0, if_pos (by omega), bind_is (T_impl _ g1), bind_is (T_impl _ g2), if_pos hsz, if_pos (by rw [List.length_map]; omega), wrap_up (n := x.length) h0 (by omega) (by omega)]
    have := ih k (i + 1) (a ++ [rd x i]) (by omega) (by omega) (by omega) (by rw [List.append_assoc, List.singleton_append, ← drop_rd x i h0 (by omega)]; exact ha)
    rw [List.map_append] at this
    exact this
theorem impl_CT (x : List Int) (hn : x.length ≤ 256) (hin : okL2 x) (k : Nat) (hk : 400 ≤ k) : impl_ComplexText.f k x = some (text x, true) := by
  unfold impl_ComplexText.f
  rw [if_neg (by omega)]
  exact text_loop x hn hin x.length k 0 [] (by omega) (by omega) (by omega) (by simp)
/-- What the program reads out of pieces, ahead of the question whether its text is the same. -/
noncomputable def imL : List ByteArray → List Int → Option (List Int)
  | [], o => some o
  | p :: r, o => if p.size = 16 then (if o.length = 256 then none else imL r (o ++ [cx (hx (fst8 p)) (hx (snd8 p))])) else none
noncomputable def asked (s : ByteArray) : Option (List Int) → List Int × Bool
  | some o => if text o = s then (o, true) else ([], false)
  | none => ([], false)
theorem okC_cx (a b : ByteArray) : okC2 (cx (hx a) (hx b)) := by
  unfold okC2
  rw [reI_cx _ _ (hx_ok a).1, imI_cx _ _ (hx_ok b).1]
  exact ⟨hx_ok a, hx_ok b⟩
theorem okL_app (o : List Int) (h : okL2 o) (a b : ByteArray) : okL2 (o ++ [cx (hx a) (hx b)]) := by
  intro x hxm
  rcases List.mem_append.1 hxm with h1 | h1
  · exact h x h1
  · rw [List.mem_singleton.1 h1]; exact okC_cx a b
theorem impl_list (s : ByteArray) (P : List ByteArray) (hn : P.length ≤ 1048577) (d : Nat) : ∀ (k i : Nat) (o : List Int), i + d = P.length → o.length ≤ 256 → okL2 o → 2 * d + 500 ≤ k →
    impl_ReadComplex.l0 k s o P (P.length : Int) (i : Int) = some (asked s (imL (P.drop i) o)) := by
  induction d with
  | zero =>
    intro k i o hi ho hok hk
    obtain ⟨k, rfl⟩ : ∃ m, k = m + 1 := ⟨k - 1, by omega⟩
    have e1 : ¬ (i : Int) < (P.length : Int) := by omega
    simp only [impl_ReadComplex.l0]
    rw [if_neg e1, List.drop_eq_nil_of_le (by omega), impl_CT o ho hok k (by omega)]
    simp only [Option.bind_some, if_true]
    show _ = some (if text o = s then (o, true) else ([], false))
    by_cases h : text o = s
    · rw [if_pos (by rw [h]), if_pos h]
    · rw [if_neg (fun q => h (str_eq q)), if_neg h]
  | succ d ih =>
    intro k i o hi ho hok hk
    obtain ⟨k, rfl⟩ : ∃ m, k = m + 2 := ⟨k - 2, by omega⟩
    have hl : i < P.length := by omega
    have e := List.drop_eq_getElem_cons hl
    have hr : rdOf ByteArray.empty P (i : Int) = P[i] := by
      unfold rdOf
      rw [Int.toNat_natCast, List.getD_eq_getElem?_getD, List.getElem?_eq_getElem hl]
      rfl
    generalize P[i] = p at hr e
    have e1 : (i : Int) < (P.length : Int) := by omega
    have e2 : (0 : Int) ≤ (i : Int) := by omega
    simp only [impl_ReadComplex.l0]
    rw [if_pos e1, if_pos e2, if_pos e1, hr, e]
    unfold imL
    by_cases hs : p.size = 16
    · rw [if_pos (by omega), if_pos hs]
      by_cases h256 : o.length = 256
      · rw [if_pos h256, show ((o.length : Int) == 256) = true by simp; omega]
        simp only [impl_ReadComplex.j1]
        rw [if_pos trivial]; rfl
      · rw [if_neg h256, show ((o.length : Int) == 256) = false by simp; omega]
        simp only [impl_ReadComplex.j1]
        have g1 : impl_readHex.f (p.extract 0 8) = some (hx (fst8 p)) := hex_f _ (fst8_size p hs)
        have g2 : impl_readHex.f (p.extract 8 p.size) = some (hx (snd8 p)) := hex_f _ (snd8_size p hs)
        rw [if_neg (by decide), if_pos (by decide), if_pos (by omega), bind_is g1, bind_is g2, if_pos (by omega), wrap_nat i P.length (by omega) (by omega)]
        exact ih k (i + 1) _ (by omega) (by rw [List.length_append, List.length_singleton]; omega) (okL_app o hok _ _) (by omega)
    · rw [if_neg (by omega), if_neg hs]
      simp only [impl_ReadComplex.j1]
      rw [if_pos trivial]; rfl
def good (l : List Int) : Prop := ∀ c ∈ l, okC2 c ∧ (nbits (reI c) : Int) = reI c ∧ (nbits (imI c) : Int) = imI c ∧ cx (reI c) (imI c) = c
theorem cdig_yes (s : ByteArray) (hs : s.size = 8) (h : (cdig s).2 = true) : ∃ n : Nat, digL 0 s.data.toList = some n ∧ n < 4294967296 ∧ nbits (n : Int) = n ∧ s.data.toList = hexK 8 n ∧ (cdig s).1 = (n : Int) := by
  unfold cdig at h ⊢
  cases hd : digL 0 s.data.toList with
  | none => rw [hd] at h; cases h
  | some n =>
    rw [hd] at h
    obtain ⟨hlt, hk⟩ := hexK_dig 8 s.data.toList n (by rw [← Lib.size_eq]; exact hs) hd
    have hlt' := lt32 n hlt
    clear hlt
    have h' : (if nbits (n : Int) = n then ((n : Int), true) else (0, false)).2 = true := h
    by_cases hb : nbits (n : Int) = n
    · refine ⟨n, rfl, hlt', hb, hk, ?_⟩
      show (if nbits (n : Int) = n then ((n : Int), true) else (0, false)).1 = (n : Int)
      rw [if_pos hb]
    · rw [if_neg hb] at h'; cases h'
theorem cdig_T (s : ByteArray) (x : Int) (hx0 : okF x) (hf : (nbits x : Int) = x) (e : s.data.toList = hexK 8 (nbits x)) : cdig s = (x, true) ∧ hx s = x := by
  have hd : digL 0 s.data.toList = some (nbits x) := by rw [e]; exact dig_hexK 8 _ (nbits_lt x hx0)
  refine ⟨?_, by rw [hx_dig s (nbits x) hd (nbits_lt x hx0), hf]⟩
  unfold cdig
  rw [hd]
  show (if nbits (nbits x : Int) = nbits x then ((nbits x : Int), true) else (0, false)) = (x, true)
  rw [hf, if_pos rfl]
theorem halves (c : Int) : (fst8 (T2 c)).data.toList = hexK 8 (nbits (reI c)) ∧ (snd8 (T2 c)).data.toList = hexK 8 (nbits (imI c)) := by
  rw [fst8_list, snd8_list, T2_list]
  unfold H2
  exact ⟨by rw [List.take_left' (hexK_len 8 _)], by rw [List.drop_left' (hexK_len 8 _)]⟩
theorem spL_good (P : List ByteArray) : ∀ o l, spL P o = (l, true) → ∃ m, l = o ++ m ∧ m.length = P.length ∧ good m ∧ P = m.map T2 := by
  induction P with
  | nil =>
    intro o l h
    have h' : (o, true) = (l, true) := h
    injection h' with h1 _
    exact ⟨[], by rw [h1, List.append_nil], rfl, (fun x hx => by cases hx), rfl⟩
  | cons p r ih =>
    intro o l h
    unfold spL at h
    by_cases hs : p.size = 16
    · rw [if_pos hs] at h
      by_cases b1 : (cdig (fst8 p)).2 = true
      · rw [if_pos b1] at h
        by_cases b2 : (cdig (snd8 p)).2 = true
        · rw [if_pos b2] at h
          obtain ⟨m, e1, e2, e3, e4⟩ := ih _ _ h
          obtain ⟨n1, _, l1, f1, k1, v1⟩ := cdig_yes _ (fst8_size p hs) b1
          obtain ⟨n2, _, l2, f2, k2, v2⟩ := cdig_yes _ (snd8_size p hs) b2
          rw [v1, v2] at e1
          have r1 := reI_cx (n1 : Int) (n2 : Int) (by omega)
          have r2 := imI_cx (n1 : Int) (n2 : Int) (by omega)
          refine ⟨cx (n1 : Int) (n2 : Int) :: m, by rw [e1, List.append_assoc]; rfl, by rw [List.length_cons, List.length_cons, e2], ?_, ?_⟩
          · intro x hxm
            rcases List.mem_cons.1 hxm with rfl | hxm
            · refine ⟨?_, ?_, ?_, ?_⟩
              · unfold okC2; rw [r1, r2]; exact ⟨okF_nat n1 l1, okF_nat n2 l2⟩
              · rw [r1, f1]
              · rw [r2, f2]
              · rw [r1, r2]
            · exact e3 x hxm
          · rw [List.map_cons, ← e4]
            congr 1
            apply Go.WideShapes.bytes_inj
            rw [T2_list]
            unfold H2
            rw [r1, r2, f1, f2, ← k1, ← k2, fst8_list, snd8_list, List.take_append_drop]
        · rw [if_neg b2] at h; injection h with _ h; cases h
      · rw [if_neg b1] at h; injection h with _ h; cases h
    · rw [if_neg hs] at h; injection h with _ h; cases h
theorem spL_T (m : List Int) (h : good m) : ∀ o, spL (m.map T2) o = (o ++ m, true) := by
  induction m with
  | nil => intro o; rw [List.append_nil]; rfl
  | cons c r ih =>
    intro o
    obtain ⟨⟨g1, g2⟩, g3, g4, g5⟩ := h c List.mem_cons_self
    obtain ⟨q1, q2⟩ := halves c
    rw [List.map_cons]
    unfold spL
    rw [if_pos (T2_size c), (cdig_T _ _ g1 g3 q1).1, (cdig_T _ _ g2 g4 q2).1, if_pos rfl, if_pos rfl]
    show spL (r.map T2) (o ++ [cx (reI c) (imI c)]) = _
    rw [g5, ih (fun y hy => h y (List.mem_cons_of_mem _ hy)), List.append_assoc]
    rfl
theorem spL_false (P : List ByteArray) : ∀ o, (∀ l, spL P o ≠ (l, true)) → spL P o = ([], false) := by
  induction P with
  | nil => intro o h; exact absurd rfl (h o)
  | cons p r ih =>
    intro o h
    unfold spL at h ⊢
    by_cases hs : p.size = 16
    · rw [if_pos hs] at h ⊢
      by_cases b1 : (cdig (fst8 p)).2 = true
      · rw [if_pos b1] at h ⊢
        by_cases b2 : (cdig (snd8 p)).2 = true
        · rw [if_pos b2] at h ⊢
          exact ih _ h
        · rw [if_neg b2]
      · rw [if_neg b1]
    · rw [if_neg hs]
theorem imL_is (P : List ByteArray) : ∀ o l, imL P o = some l → l = o ++ P.map (fun p => cx (hx (fst8 p)) (hx (snd8 p))) := by
  induction P with
  | nil => intro o l h; injection h with h; rw [← h]; simp
  | cons p r ih =>
    intro o l h
    unfold imL at h
    by_cases hs : p.size = 16
    · rw [if_pos hs] at h
      by_cases h256 : o.length = 256
      · rw [if_pos h256] at h; cases h
      · rw [if_neg h256] at h
        rw [ih _ _ h, List.append_assoc]; rfl
    · rw [if_neg hs] at h; cases h
theorem imL_T (m : List Int) (h : good m) : ∀ o, o.length + m.length ≤ 256 → imL (m.map T2) o = some (o ++ m) := by
  induction m with
  | nil => intro o _; rw [List.append_nil]; rfl
  | cons c r ih =>
    intro o ho
    obtain ⟨⟨g1, g2⟩, g3, g4, g5⟩ := h c List.mem_cons_self
    obtain ⟨q1, q2⟩ := halves c
    rw [List.length_cons] at ho
    rw [List.map_cons]
    unfold imL
    rw [if_pos (T2_size c), if_neg (by omega), (cdig_T _ _ g1 g3 q1).2, (cdig_T _ _ g2 g4 q2).2, g5, ih (fun y hy => h y (List.mem_cons_of_mem _ hy)) _ (by rw [List.length_append, List.length_singleton]; omega), List.append_assoc]
    rfl
theorem no44_2 (c : Int) : ∀ b ∈ H2 c, b ≠ 44 := by
  intro b hb
  rcases List.mem_append.1 hb with hb | hb
  · exact no44 8 _ b hb
  · exact no44 8 _ b hb
theorem pcs_text (m : List Int) (h : m ≠ []) : pcs (text m) = m.map T2 := by
  cases m with
  | nil => exact absurd rfl h
  | cons a r =>
    unfold text pcs
    rw [if_neg (by simp)]
    have e : (⟨(Lib.join ((a :: r).map H2) [44]).toArray⟩ : ByteArray).data.toList = Lib.join ((a :: r).map H2) [44] := rfl
    have eT : ∀ y, (⟨(H2 y).toArray⟩ : ByteArray) = T2 y := fun y => by apply Go.WideShapes.bytes_inj; rw [T2_list]
    rw [e, List.map_cons, Lib.join_cons, cut_join]
    · rw [List.map_cons, List.map_map, List.map_cons, eT]
      congr 1
    · intro x hx b hb
      have : ∃ y, x = H2 y := by
        rcases List.mem_cons.1 hx with rfl | hx
        · exact ⟨a, rfl⟩
        · obtain ⟨y, _, rfl⟩ := List.mem_map.1 hx; exact ⟨y, rfl⟩
      obtain ⟨y, rfl⟩ := this
      exact no44_2 _ b hb
theorem text_pcs (s : ByteArray) (m : List Int) (h : m ≠ []) (e : pcs s = m.map T2) : text m = s := by
  apply Go.WideShapes.bytes_inj
  have hm : m.length ≠ 0 := fun q => h (List.eq_nil_of_length_eq_zero q)
  unfold text
  rw [if_neg hm]
  show Lib.join (m.map H2) [44] = s.data.toList
  have e2 : cutL 44 [] s.data.toList = m.map H2 := by
    have := congrArg (List.map (fun b : ByteArray => b.data.toList)) e
    unfold pcs at this
    rw [List.map_map, List.map_map] at this
    have e3 : (cutL 44 [] s.data.toList).map ((fun b : ByteArray => b.data.toList) ∘ fun l => (⟨l.toArray⟩ : ByteArray)) = cutL 44 [] s.data.toList := by
      conv => rhs; rw [← List.map_id (cutL 44 [] s.data.toList)]
      apply List.map_congr_left
      intro x _
      simp
    have e4 : m.map ((fun b : ByteArray => b.data.toList) ∘ T2) = m.map H2 := by
      apply List.map_congr_left
      intro x _
      exact T2_list x
    rw [e3, e4] at this
    exact this
  rw [← e2, join_cut]
  rfl
/-- The reference's answer is the program's. -/
theorem same_list (s : ByteArray) (hn : (pcs s).length ≤ 256) (hne : pcs s ≠ []) : spL (pcs s) [] = asked s (imL (pcs s) []) := by
  by_cases ex : ∃ l, spL (pcs s) [] = (l, true)
  · obtain ⟨l, h⟩ := ex
    obtain ⟨m, e1, e2, e3, e4⟩ := spL_good _ _ _ h
    rw [List.nil_append] at e1
    subst e1
    have hl : l ≠ [] := fun q => by subst q; rw [e4] at hne; exact hne rfl
    have him : imL (pcs s) [] = some l := by
      rw [e4, imL_T l e3 [] (by rw [e2]; simpa using hn), List.nil_append]
    rw [h, him]
    show (l, true) = if text l = s then (l, true) else ([], false)
    rw [if_pos (text_pcs s l hl e4)]
  · have hf := spL_false (pcs s) [] (fun l h => ex ⟨l, h⟩)
    rw [hf]
    cases him : imL (pcs s) [] with
    | none => rfl
    | some o =>
      show _ = if text o = s then (o, true) else ([], false)
      by_cases ht : text o = s
      · exfalso
        apply ex
        have e1 := imL_is _ _ _ him
        rw [List.nil_append] at e1
        have ho : o ≠ [] := by
          intro q
          rw [q] at e1
          exact hne (List.map_eq_nil_iff.1 e1.symm)
        have hp := pcs_text o ho
        rw [ht] at hp
        have hgood : good o := by
          intro c hc
          have e3 : o = o.map (fun x => cx (hx (fst8 (T2 x))) (hx (snd8 (T2 x)))) := by
            conv => lhs; rw [e1, hp, List.map_map]
            rfl
          obtain ⟨i, hi, rfl⟩ := List.mem_iff_getElem.1 hc
          have e4 : o[i] = cx (hx (fst8 (T2 o[i]))) (hx (snd8 (T2 o[i]))) := by
            have := congrArg (fun l => l[i]?) e3
            simp only [List.getElem?_map, List.getElem?_eq_getElem hi, Option.map_some] at this
            exact Option.some.inj this
          generalize o[i] = c at e4
          have r1 : reI c = hx (fst8 (T2 c)) := by conv => lhs; rw [e4]
                                                   exact reI_cx _ _ (hx_ok _).1
          have r2 : imI c = hx (snd8 (T2 c)) := by conv => lhs; rw [e4]
                                                   exact imI_cx _ _ (hx_ok _).1
          have o1 : okF (reI c) := by rw [r1]; exact hx_ok _
          have o2 : okF (imI c) := by rw [r2]; exact hx_ok _
          obtain ⟨q1, q2⟩ := halves c
          have d1 : digL 0 (fst8 (T2 c)).data.toList = some (nbits (reI c)) := by rw [q1]; exact dig_hexK 8 _ (nbits_lt _ o1)
          have d2 : digL 0 (snd8 (T2 c)).data.toList = some (nbits (imI c)) := by rw [q2]; exact dig_hexK 8 _ (nbits_lt _ o2)
          have n1 := hx_dig _ _ d1 (nbits_lt _ o1)
          have n2 := hx_dig _ _ d2 (nbits_lt _ o2)
          exact ⟨⟨o1, o2⟩, (r1.trans n1).symm, (r2.trans n2).symm, by rw [r1, r2]; exact e4.symm⟩
        exact ⟨[] ++ o, by rw [hp]; exact spL_T o hgood []⟩
      · rw [if_neg ht]
theorem spL_len (P : List ByteArray) : ∀ o, (spL P o).1.length ≤ o.length + P.length := by
  induction P with
  | nil => intro o; exact Nat.le_refl _
  | cons p r ih =>
    intro o
    unfold spL
    by_cases hs : p.size = 16
    · rw [if_pos hs]
      by_cases b1 : (cdig (fst8 p)).2 = true
      · rw [if_pos b1]
        by_cases b2 : (cdig (snd8 p)).2 = true
        · rw [if_pos b2]
          have := ih (o ++ [cx (cdig (fst8 p)).1 (cdig (snd8 p)).1])
          rw [List.length_append, List.length_singleton] at this
          rw [List.length_cons]; omega
        · rw [if_neg b2]; exact Nat.zero_le _
      · rw [if_neg b1]; exact Nat.zero_le _
    · rw [if_neg hs]; exact Nat.zero_le _
theorem imL_none (P : List ByteArray) : ∀ o, 256 < o.length + P.length → o.length ≤ 256 → imL P o = none := by
  induction P with
  | nil => intro o h1 h2; simp only [List.length_nil] at h1; omega
  | cons p r ih =>
    intro o h1 h2
    unfold imL
    by_cases hs : p.size = 16
    · rw [if_pos hs]
      by_cases h256 : o.length = 256
      · rw [if_pos h256]
      · rw [if_neg h256]
        rw [List.length_cons] at h1
        exact ih _ (by rw [List.length_append, List.length_singleton]; omega) (by rw [List.length_append, List.length_singleton]; omega)
    · rw [if_neg hs]
theorem pcs_ne (s : ByteArray) : pcs s ≠ [] := by
  obtain ⟨x, r, e⟩ := cutL_ne s.data.toList []
  unfold pcs
  rw [e]
  simp
theorem none_text (s : ByteArray) (h : s.toList = [110, 111, 110, 101]) : text [] = s := by
  apply Go.WideShapes.bytes_inj
  rw [← Lib.toList_data s, h]
  rfl
theorem leO_some {α : Type} {a b : α} (h : LeO (some a) (some b)) : a = b := (Option.some.inj (h a rfl)).symm

end FnExactReadComplexParts


end Go.Proofs.YtpfjcfhgckpjmaaGreatDoor.Cq
namespace Go.Proofs.YtpfjcfhgckpjmaaGreatDoor.Cq
open Go.RowKit Go.Proofs.YtpfjcfhgckpjmaaGreatDoor.QFnExactReadComplex Go.Proofs.YtpfjcfhgckpjmaaGreatDoorW.PrintWords Go.Proofs.YtpfjcfhgckpjmaaGreatDoorW.PrintLast
set_option linter.unusedSimpArgs false
open Go.Proofs.YtpfjcfhgckpjmaaGreatDoor.Hc
set_option linter.unusedVariables false
namespace FnExactReadComplexParts
theorem nbits_is (x : Int) (h : okF x) : (nbits x : Int) = Go.Fl.bitsV (Go.Fl.val .f32 x.toNat) := by
  unfold okF at h
  have := Lw.bitsV_range x.toNat (by omega)
  unfold nbits
  omega
theorem nbits_nbits (x : Int) (h : okF x) : nbits (nbits x : Int) = nbits x := by
  have e := nbits_is x h
  have := Lw.val_back x.toNat
  rw [← e] at this
  show (Go.Fl.bitsV (Go.Fl.val .f32 ((nbits x : Int)).toNat)).toNat = nbits x
  rw [this]
  exact Int.toNat_natCast _
/-- A complex number, each part by its bits. -/
noncomputable def nb (c : Int) : Int := cx (nbits (reI c) : Int) (nbits (imI c) : Int)
theorem re_nb (c : Int) : reI (nb c) = (nbits (reI c) : Int) := reI_cx _ _ (by omega)
theorem im_nb (c : Int) : imI (nb c) = (nbits (imI c) : Int) := imI_cx _ _ (by omega)
theorem good_nb (l : List Int) (h : okL2 l) : good (l.map nb) := by
  intro y hy
  obtain ⟨x, hx, rfl⟩ := List.mem_map.1 hy
  obtain ⟨h1, h2⟩ := h x hx
  have b1 := nbits_lt _ h1
  have b2 := nbits_lt _ h2
  unfold okC2
  rw [re_nb, im_nb]
  exact ⟨⟨by unfold okF; omega, by unfold okF; omega⟩, by rw [nbits_nbits _ h1], by rw [nbits_nbits _ h2], rfl⟩
theorem text_nb (l : List Int) (h : okL2 l) : text (l.map nb) = text l := by
  have e : (l.map nb).map H2 = l.map H2 := by
    rw [List.map_map]
    apply List.map_congr_left
    intro x hx
    show H2 (nb x) = H2 x
    unfold H2
    rw [re_nb, im_nb, nbits_nbits _ (h x hx).1, nbits_nbits _ (h x hx).2]
  unfold text
  rw [e, List.length_map]
theorem text_size (l : List Int) (h : l.length ≤ 40) : (text l).size ≤ 2000 := by
  unfold text
  split
  · decide
  · rw [Lib.size_eq]
    cases l with
    | nil => simp [Lib.join]
    | cons a r =>
      have h1 := tail_len r
      have h2 := H2_len a
      simp only [List.length_cons] at h
      rw [List.map_cons, Lib.join_cons]
      simp only [List.size_toArray, List.length_append, h2]
      omega
theorem pcs_none : ∀ s : ByteArray, s.toList = [110, 111, 110, 101] → ∀ m : List Int, pcs s ≠ m.map T2 := by
  intro s hs m e
  have e1 : s = ⟨#[110, 111, 110, 101]⟩ := (none_text s hs).symm.trans rfl
  subst e1
  have e2 : pcs ⟨#[110, 111, 110, 101]⟩ = [⟨#[110, 111, 110, 101]⟩] := by rfl
  rw [e2] at e
  cases m with
  | nil => cases e
  | cons a r =>
    simp only [List.map_cons, List.cons.injEq] at e
    have := T2_size a
    rw [← e.1] at this
    exact absurd this (by decide)
theorem read_text (l : List Int) (h : okL2 l) (hn : l.length ≤ 40) : ∃ t : ByteArray, impl_ComplexText.f 400 l = some (t, true) ∧ impl_ReadComplex.f 600 t = some (l.map nb, true) := by
  refine ⟨text l, ?_, ?_⟩
  · exact impl_CT l (by omega) h 400 (by omega)
  · cases l with
    | nil =>
      unfold impl_ReadComplex.f impl_pieces.f
      have h0 : (text []).toList = [110, 111, 110, 101] := by rw [Lib.toList_data]; rfl
      rw [if_pos h0]
      simp only [Option.bind_some]
      have := impl_list (text []) [] (by simp) 0 600 0 [] rfl (by simp) (fun x hx => by cases hx) (by omega)
      have e : asked (text []) (imL (([] : List ByteArray).drop 0) []) = ([], true) := by
        show (if text [] = text [] then (([] : List Int), true) else ([], false)) = _
        rw [if_pos rfl]
      rw [e] at this
      exact this
    | cons a r =>
      have hg := good_nb (a :: r) h
      have ht := text_nb (a :: r) h
      have hne : (a :: r).map nb ≠ [] := by simp
      have hp := pcs_text _ hne
      have hsz := text_size (a :: r) hn
      have hlen : ((a :: r).map nb).length = (a :: r).length := List.length_map ..
      rw [ht] at hp
      generalize (a :: r).map nb = m at hg ht hne hp hlen ⊢
      generalize text (a :: r) = s at ht hp hsz ⊢
      have hnone : ¬ s.toList = [110, 111, 110, 101] := fun e => pcs_none s e m hp
      unfold impl_ReadComplex.f impl_pieces.f
      rw [if_neg hnone, split_f s (by omega) 600]
      simp only [Option.bind_some]
      have hl : (pcs s).length = m.length := by rw [hp, List.length_map]
      have hi := impl_list s (pcs s) (by omega) (pcs s).length 600 0 [] (by omega) (by simp) (fun x hx => by cases hx) (by omega)
      rw [List.drop_zero, show ((0 : Nat) : Int) = 0 from rfl] at hi
      rw [hi, hp, imL_T m hg [] (by simp only [List.length_nil]; omega)]
      show some (if text ([] ++ m) = s then ([] ++ m, true) else ([], false)) = _
      rw [List.nil_append, if_pos ht]
end FnExactReadComplexParts
end Go.Proofs.YtpfjcfhgckpjmaaGreatDoor.Cq
set_option exponentiation.threshold 3000
set_option linter.unusedVariables false
set_option linter.unusedSimpArgs false
namespace Go.Fl
open Ieee
/-- How many places a format has behind the point. -/
structure Fine (f : Format) (C : Nat) : Prop where
  lp : f.leastPlace = -(C : Int)
  one : f.one = 2 ^ C
  E : 1 ≤ f.exponentBits
  top : 2 ^ (f.fractionBits + 1) * 2 ^ C < f.units f.infRung
theorem fine32 : Fine single 149 := ⟨by decide, by decide, by decide, by rw [single.units_infRung (by decide)]; decide⟩
theorem fine64 : Fine double 1074 := ⟨by decide, by decide +kernel, by decide, by rw [double.units_infRung (by decide), ← Nat.pow_add]; exact Nat.pow_lt_pow_right (by decide) (by decide)⟩
/-- A word that is the integer n; a zero of either sign is 0. -/
structure Z (f : Format) (C : Nat) (b : Nat) (n : Int) : Prop where
  lt : b < 2 ^ f.width
  fin : f.rungOf b < f.infRung
  sv : f.sv b = n * ((2 ^ C : Nat) : Int)
variable {f : Format} {C : Nat}
theorem Z.units {b : Nat} {n : Int} (h : Z f C b n) : f.units (f.rungOf b) = n.natAbs * 2 ^ C := by
  rw [← f.sv_natAbs, h.sv, Int.natAbs_mul, Int.natAbs_natCast]
theorem pos_pow (C : Nat) : (0 : Int) < ((2 ^ C : Nat) : Int) := by exact_mod_cast Nat.two_pow_pos C
theorem Z.neg {b : Nat} {n : Int} (h : Z f C b n) : (f.isNeg b = true → n ≤ 0) ∧ (f.isNeg b = false → 0 ≤ n) := by
  have hs := h.sv
  have hp := pos_pow C
  unfold Format.sv at hs
  constructor
  · intro hn
    rw [hn, if_pos rfl] at hs
    apply Classical.byContradiction
    intro hc
    have := Int.mul_pos (show 0 < n by omega) hp
    omega
  · intro hn
    rw [hn, if_neg (by decide)] at hs
    apply Classical.byContradiction
    intro hc
    have := Int.mul_neg_of_neg_of_pos (show n < 0 by omega) hp
    omega
theorem Z.mk_word {s : Bool} {R : Nat} {n : Int} (hR : R < f.infRung) (hu : f.units R = n.natAbs * 2 ^ C) (hs : n ≠ 0 → s = decide (n < 0)) (hw : f.infRung < f.signWeight) : Z f C (f.word s R) n := by
  have hlt : R < f.signWeight := by omega
  refine ⟨?_, by rw [f.rungOf_word _ hlt]; exact hR, ?_⟩
  · unfold Format.word Format.width
    have e : 2 ^ (1 + f.exponentBits + f.fractionBits) = f.signWeight + f.signWeight := by
      unfold Format.signWeight
      rw [show 1 + f.exponentBits + f.fractionBits = (f.exponentBits + f.fractionBits) + 1 by omega, Nat.pow_succ]; omega
    rw [e]
    split <;> omega
  · unfold Format.sv
    rw [f.rungOf_word _ hlt, f.isNeg_word _ hlt, hu]
    by_cases h0 : n = 0
    · subst h0
      simp
    · rw [hs h0]
      by_cases hn : n < 0
      · rw [decide_eq_true hn, if_pos rfl]
        obtain ⟨m, rfl⟩ : ∃ m : Nat, n = -(m : Int) := ⟨n.natAbs, by omega⟩
        rw [Int.natAbs_neg, Int.natAbs_natCast]
        push_cast
        rw [Int.neg_mul]
      · rw [decide_eq_false hn, if_neg (by decide)]
        obtain ⟨m, rfl⟩ : ∃ m : Nat, n = (m : Int) := ⟨n.natAbs, by omega⟩
        rw [Int.natAbs_natCast]
        push_cast
        rfl
theorem inf_sign (hF : Fine f C) : f.infRung < f.signWeight := by
  unfold Format.infRung Format.signWeight Format.binade
  rw [Nat.pow_add]
  exact Nat.mul_lt_mul_of_pos_right (Nat.sub_lt (Nat.two_pow_pos _) (by decide)) (Nat.two_pow_pos _)
theorem Z.ex (hF : Fine f C) {m : Nat} (h : m < 2 ^ (f.fractionBits + 1)) : ∃ R, R < f.infRung ∧ f.units R = m * 2 ^ C :=
  f.exists_rung m C h (Nat.lt_of_le_of_lt (Nat.mul_le_mul_right _ (Nat.le_of_lt h)) hF.top)
/-- A word that is an integer other than 0 is told by it. -/
theorem Z.inj (hF : Fine f C) {b c : Nat} {n : Int} (h : Z f C b n) (k : Z f C c n) (h0 : n ≠ 0) : b = c := by
  have hu : f.rungOf b = f.rungOf c := f.units_inj (by rw [h.units, k.units])
  have hs : f.isNeg b = f.isNeg c := by
    have h1 := h.neg
    have h2 := k.neg
    cases e1 : f.isNeg b <;> cases e2 : f.isNeg c <;> first | rfl | (have := h1.1; have := h1.2; have := h2.1; have := h2.2; simp_all; omega)
  rw [← f.word_of h.lt, ← f.word_of k.lt, hu, hs]
theorem Z.num (hF : Fine f C) {b : Nat} {n : Int} (h : Z f C b n) : f.nan b = false := by
  rw [f.nan_iff hF.E]
  have := h.fin
  simp
  omega
theorem Z.order {b c : Nat} {m n : Int} (h : Z f C b m) (k : Z f C c n) : f.order b c = some (compare m n) := by
  rw [f.order_fin h.fin k.fin, h.sv, k.sv, Format.compare_scale]
theorem near (hF : Fine f C) {s : Bool} {mag e : Nat} {n : Int} (hm : mag * 2 ^ e = n.natAbs * 2 ^ C) (h : n.natAbs < 2 ^ (f.fractionBits + 1)) (hs : n ≠ 0 → s = decide (n < 0)) : Z f C (f.nearest s mag (f.leastPlace + (e : Nat))) n := by
  obtain ⟨R, h1, h2⟩ := Z.ex hF h
  rw [f.nearest_eq_e s (Nat.le_of_lt h1) (by rw [hm, h2])]
  exact Z.mk_word h1 h2 hs (inf_sign hF)
theorem Z.add (hF : Fine f C) {b c : Nat} {m n : Int} (h : Z f C b m) (k : Z f C c n) (hb : (m + n).natAbs < 2 ^ (f.fractionBits + 1)) : ∃ r, f.add b c = some r ∧ Z f C r (m + n) := by
  obtain ⟨s, mag, e, k1, k2, k3, k4⟩ := f.sum_fin h.fin k.fin
  have hp := pos_pow C
  rw [h.sv, k.sv, ← Int.add_mul] at k2 k3
  refine ⟨_, k1, near hF (by rw [k2, Int.natAbs_mul, Int.natAbs_natCast]) hb fun h0 => ?_⟩
  rw [k3 (Int.mul_ne_zero h0 (by omega))]
  congr 1
  exact propext ⟨fun h1 => Classical.byContradiction fun h2 => by have := Int.mul_nonneg (show 0 ≤ m + n by omega) (Int.le_of_lt hp); omega, fun h1 => Int.mul_neg_of_neg_of_pos h1 hp⟩
theorem Z.sub (hF : Fine f C) {b c : Nat} {m n : Int} (h : Z f C b m) (k : Z f C c n) (hb : (m - n).natAbs < 2 ^ (f.fractionBits + 1)) : ∃ r, f.sub b c = some r ∧ Z f C r (m - n) := by
  obtain ⟨s, mag, e, k1, k2, k3, k4⟩ := f.sub_fin h.fin k.fin
  have hp := pos_pow C
  rw [h.sv, k.sv, ← Int.sub_mul] at k2 k3
  refine ⟨_, k1, near hF (by rw [k2, Int.natAbs_mul, Int.natAbs_natCast]) hb fun h0 => ?_⟩
  rw [k3 (Int.mul_ne_zero h0 (by omega))]
  congr 1
  exact propext ⟨fun h1 => Classical.byContradiction fun h2 => by have := Int.mul_nonneg (show 0 ≤ m - n by omega) (Int.le_of_lt hp); omega, fun h1 => Int.mul_neg_of_neg_of_pos h1 hp⟩
theorem xor_sign {b c : Nat} {m n : Int} (h : Z f C b m) (k : Z f C c n) (h0 : m * n ≠ 0) : (f.isNeg b ^^ f.isNeg c) = decide (m * n < 0) := by
  have h1 := h.neg
  have h2 := k.neg
  have hm : m ≠ 0 := fun e => h0 (by rw [e, Int.zero_mul])
  have hn : n ≠ 0 := fun e => h0 (by rw [e, Int.mul_zero])
  cases e1 : f.isNeg b <;> cases e2 : f.isNeg c
  · have a1 := h1.2 e1; have a2 := h2.2 e2
    have := Int.mul_nonneg a1 a2
    symm; simpa using this
  · have a1 := h1.2 e1; have a2 := h2.1 e2
    have := Int.mul_neg_of_pos_of_neg (show 0 < m by omega) (show n < 0 by omega)
    symm; simpa using this
  · have a1 := h1.1 e1; have a2 := h2.2 e2
    have := Int.mul_neg_of_neg_of_pos (show m < 0 by omega) (show 0 < n by omega)
    symm; simpa using this
  · have a1 := h1.1 e1; have a2 := h2.1 e2
    have := Int.mul_pos_of_neg_of_neg (show m < 0 by omega) (show n < 0 by omega)
    symm; simp; omega
theorem Z.mul (hF : Fine f C) {b c : Nat} {m n : Int} (h : Z f C b m) (k : Z f C c n) (hb : (m * n).natAbs < 2 ^ (f.fractionBits + 1)) : ∃ r, f.mul b c = some r ∧ Z f C r (m * n) := by
  obtain ⟨R, h1, h2⟩ := Z.ex hF hb
  refine ⟨_, f.mul_exact (R := R) (by rw [hF.lp]; omega) h.fin k.fin (Nat.le_of_lt h1) ?_, Z.mk_word h1 h2 (xor_sign h k) (inf_sign hF)⟩
  rw [h.units, k.units, h2, hF.one, Int.natAbs_mul]
  simp only [Nat.mul_assoc, Nat.mul_comm, Nat.mul_left_comm]
/-- An exact quotient. -/
theorem Z.quo {b c : Nat} {q n : Int} (h : Z double 1074 b (q * n)) (k : Z double 1074 c n) (h0 : n ≠ 0) (hb : q.natAbs < 2 ^ 53) : ∃ r, double.div b c = some r ∧ Z double 1074 r q := by
  obtain ⟨R, h1, h2⟩ := Z.ex fine64 (m := q.natAbs) hb
  have hp : 0 < 2 ^ 1074 := Nat.two_pow_pos _
  refine ⟨_, quo_exact (R := R) h.fin k.fin (Nat.le_of_lt h1) ?_ ?_, Z.mk_word h1 h2 ?_ (inf_sign fine64)⟩
  · rw [k.units]
    exact Nat.mul_ne_zero (by omega) (by omega)
  · rw [h.units, k.units, h2, Int.natAbs_mul]
    generalize 2 ^ 1074 = P
    simp only [Nat.mul_assoc, Nat.mul_comm, Nat.mul_left_comm]
  · intro hq
    have a1 := h.neg
    have a2 := k.neg
    have hqn : q * n ≠ 0 := Int.mul_ne_zero hq h0
    by_cases hn : n < 0
    · have e2 : double.isNeg c = true := by cases e : double.isNeg c with | true => rfl | false => have := a2.2 e; omega
      rw [e2]
      by_cases hq0 : q < 0
      · have := Int.mul_pos_of_neg_of_neg hq0 hn
        have e1 : double.isNeg b = false := by cases e : double.isNeg b with | false => rfl | true => have := a1.1 e; omega
        rw [e1]; symm; simpa using hq0
      · have := Int.mul_neg_of_pos_of_neg (show 0 < q by omega) hn
        have e1 : double.isNeg b = true := by cases e : double.isNeg b with | true => rfl | false => have := a1.2 e; omega
        rw [e1]; symm; simp; omega
    · have e2 : double.isNeg c = false := by cases e : double.isNeg c with | false => rfl | true => have := a2.1 e; omega
      rw [e2]
      by_cases hq0 : q < 0
      · have := Int.mul_neg_of_neg_of_pos hq0 (show 0 < n by omega)
        have e1 : double.isNeg b = true := by cases e : double.isNeg b with | true => rfl | false => have := a1.2 e; omega
        rw [e1]; symm; simpa using hq0
      · have := Int.mul_pos (show 0 < q by omega) (show 0 < n by omega)
        have e1 : double.isNeg b = false := by cases e : double.isNeg b with | false => rfl | true => have := a1.1 e; omega
        rw [e1]; symm; simp; omega
/-! ### the values of the walk -/
/-- A value of kind k that is the integer n. -/
def ZV (k : FloatKind) (v : Option Nat) (n : Int) : Prop := ∃ b, v = some b ∧ Z k.format (match k with | .f32 => 149 | .f64 => 1074) b n
def top : FloatKind → Nat
  | .f32 => 16777216
  | .f64 => 9007199254740992
theorem zadd {k : FloatKind} {u v : Option Nat} {m n : Int} (hu : ZV k u m) (hv : ZV k v n) (hb : (m + n).natAbs < top k) : ZV k (fop .add k u v) (m + n) := by
  obtain ⟨b, rfl, h1⟩ := hu
  obtain ⟨c, rfl, h2⟩ := hv
  cases k
  · obtain ⟨r, h3, h4⟩ := Z.add fine32 h1 h2 hb
    exact ⟨r, h3, h4⟩
  · obtain ⟨r, h3, h4⟩ := Z.add fine64 h1 h2 hb
    exact ⟨r, h3, h4⟩
theorem zsub {k : FloatKind} {u v : Option Nat} {m n : Int} (hu : ZV k u m) (hv : ZV k v n) (hb : (m - n).natAbs < top k) : ZV k (fop .sub k u v) (m - n) := by
  obtain ⟨b, rfl, h1⟩ := hu
  obtain ⟨c, rfl, h2⟩ := hv
  cases k
  · obtain ⟨r, h3, h4⟩ := Z.sub fine32 h1 h2 hb
    exact ⟨r, h3, h4⟩
  · obtain ⟨r, h3, h4⟩ := Z.sub fine64 h1 h2 hb
    exact ⟨r, h3, h4⟩
theorem zmul {k : FloatKind} {u v : Option Nat} {m n : Int} (hu : ZV k u m) (hv : ZV k v n) (hb : (m * n).natAbs < top k) : ZV k (fop .mul k u v) (m * n) := by
  obtain ⟨b, rfl, h1⟩ := hu
  obtain ⟨c, rfl, h2⟩ := hv
  cases k
  · obtain ⟨r, h3, h4⟩ := Z.mul fine32 h1 h2 hb
    exact ⟨r, h3, h4⟩
  · obtain ⟨r, h3, h4⟩ := Z.mul fine64 h1 h2 hb
    exact ⟨r, h3, h4⟩
theorem zquo {u v : Option Nat} {q n : Int} (hu : ZV .f64 u (q * n)) (hv : ZV .f64 v n) (h0 : n ≠ 0) (hb : q.natAbs < top .f64) : ZV .f64 (fop .quo .f64 u v) q := by
  obtain ⟨b, rfl, h1⟩ := hu
  obtain ⟨c, rfl, h2⟩ := hv
  obtain ⟨r, h3, h4⟩ := Z.quo h1 h2 h0 hb
  exact ⟨r, h3, h4⟩
theorem zwiden {u : Option Nat} {n : Int} (hu : ZV .f32 u n) : ZV .f64 (widen u) n := by
  obtain ⟨b, rfl, h'⟩ := hu
  have h : Z single 149 b n := h'
  obtain ⟨rd, h1, h2, h3⟩ := widen_word h.fin
  refine ⟨_, by unfold widen; rw [Option.map_some, h3], ?_⟩
  refine (Z.mk_word (f := double) (C := 1074) h1 ?_ ?_ (inf_sign fine64) : Z double 1074 _ n)
  · rw [h2, h.units, Nat.mul_assoc, ← Nat.pow_add]
  · intro h0
    have hn := h.neg
    cases e : single.isNeg b with
    | true => have := hn.1 e; symm; simp; omega
    | false => have := hn.2 e; symm; simpa using this
theorem znarrow {v : Option Nat} {n : Int} (hv : ZV .f64 v n) (hb : n.natAbs < top .f32) : ZV .f32 (narrow v) n ∧ NarrowOk v := by
  obtain ⟨b, rfl, h'⟩ := hv
  have h : Z double 1074 b n := h'
  obtain ⟨R, h1, h2⟩ := Z.ex fine32 (m := n.natAbs) hb
  have e1 : (double.leastPlace - single.leastPlace).toNat = 0 := by decide
  have e2 : (single.leastPlace - double.leastPlace).toNat = 925 := by decide
  have hw : single.write (double.read b) = single.word (double.isNeg b) R := double.rewrite_exact single h.fin (Nat.le_of_lt h1) (by
    rw [h.units, h2, e1, e2, Nat.pow_zero, Nat.mul_one, Nat.mul_assoc, ← Nat.pow_add])
  have hz : Z single 149 (single.word (double.isNeg b) R) n := Z.mk_word h1 h2 (fun h0 => by
    have hn := h.neg
    cases e : double.isNeg b with
    | true => have := hn.1 e; symm; simp; omega
    | false => have := hn.2 e; symm; simpa using this) (inf_sign fine32)
  refine ⟨⟨_, by unfold narrow; rw [Option.map_some, hw], hz⟩, ?_⟩
  intro c hc _
  cases hc
  rw [hw]
  obtain ⟨m, e, hr, -⟩ := single.read_fin hz.fin
  rw [hr]
  rfl
theorem zof (n : Int) (hb : n.natAbs < top .f32) : ZV .f32 (some (floatOfInt .f32 n)) n := by
  refine ⟨_, rfl, ?_⟩
  have e : floatOfInt .f32 n = single.nearest (decide (n < 0)) n.natAbs (single.leastPlace + (149 : Nat)) := rfl
  rw [e]
  exact near fine32 rfl hb (fun _ => rfl)
theorem zeq {k : FloatKind} {u v : Option Nat} {m n : Int} (hu : ZV k u m) (hv : ZV k v n) : ∃ b c, u = some b ∧ v = some c ∧ k.format.order b c = some (compare m n) := by
  obtain ⟨b, rfl, h1⟩ := hu
  obtain ⟨c, rfl, h2⟩ := hv
  refine ⟨b, c, rfl, rfl, ?_⟩
  cases k
  · exact Z.order h1 h2
  · exact Z.order h1 h2
theorem zinj {k : FloatKind} {u v : Option Nat} {n : Int} (hu : ZV k u n) (hv : ZV k v n) (h0 : n ≠ 0) : u = v := by
  obtain ⟨b, rfl, h1⟩ := hu
  obtain ⟨c, rfl, h2⟩ := hv
  cases k
  · rw [Z.inj fine32 h1 h2 h0]
  · rw [Z.inj fine64 h1 h2 h0]
theorem ZV.cast {k : FloatKind} {v : Option Nat} {m n : Int} (h : ZV k v m) (e : m = n) : ZV k v n := e ▸ h
end Go.Fl
set_option exponentiation.threshold 3000
set_option linter.unusedVariables false
set_option linter.unusedSimpArgs false
namespace Go.Fl
open Ieee
theorem neg_word (f : Format) {b : Nat} (hb : b < 2 ^ f.width) : f.isNeg (b ^^^ f.signWeight) = !(f.isNeg b) ∧ f.rungOf (b ^^^ f.signWeight) = f.rungOf b ∧ b ^^^ f.signWeight < 2 ^ f.width := by
  have ht : ∀ x, f.isNeg x = x.testBit (f.exponentBits + f.fractionBits) := by
    intro x
    rw [Nat.testBit_eq_decide_div_mod_eq]
    unfold Format.isNeg Format.signWeight
    rw [Bool.eq_iff_iff]
    simp
  refine ⟨?_, ?_, ?_⟩
  · rw [ht, ht, Nat.testBit_xor]
    unfold Format.signWeight
    rw [Nat.testBit_two_pow_self]
    simp
  · unfold Format.rungOf Format.signWeight
    rw [Nat.xor_mod_two_pow, Nat.mod_self, Nat.xor_zero]
  · refine Nat.xor_lt_two_pow hb ?_
    unfold Format.signWeight Format.width
    exact Nat.pow_lt_pow_right (by decide) (by omega)
theorem Z.negz {f : Format} {C b : Nat} {n : Int} (h : Z f C b n) : Z f C (b ^^^ f.signWeight) (-n) := by
  obtain ⟨h1, h2, h3⟩ := neg_word f h.lt
  refine ⟨h3, by rw [h2]; exact h.fin, ?_⟩
  have := h.sv
  unfold Format.sv at this ⊢
  rw [h1, h2, Int.neg_mul, ← this]
  cases f.isNeg b <;> simp
theorem zneg {v : Option Nat} {n : Int} (h : ZV .f64 v n) : ZV .f64 (fneg v) (-n) := by
  obtain ⟨b, rfl, hb⟩ := h
  exact ⟨_, rfl, hb.negz⟩
/-- A single that is an integer. -/
abbrev S32 (b : Nat) (n : Int) : Prop := Z single 149 b n
theorem S32.zv {b : Nat} {n : Int} (h : S32 b n) : ZV .f32 (some b) n := ⟨b, rfl, h⟩
theorem S32.is {b : Nat} {n : Int} (h : S32 b n) : Is .f32 b (some b) := ⟨val_num (k := .f32) (Z.num fine32 h), h.lt⟩
theorem S32.of {r : Nat} {V : Option Nat} {n : Int} (h : Is .f32 r V) (z : ZV .f32 V n) : S32 r n := by
  obtain ⟨b, rfl, hb⟩ := z
  obtain ⟨rfl, -⟩ := h.some
  exact hb
theorem S32.mk (n : Int) (h : n.natAbs < 16777216) : S32 (floatOfInt .f32 n) n := by
  obtain ⟨b, hb, hz⟩ := zof n h
  cases hb
  exact hz
theorem S32.eq {b c : Nat} {n : Int} (h : S32 b n) (k : S32 c n) : FloatKind.f32.format.order b c = some .eq := by
  have e : single.order b c = _ := Z.order h k
  show single.order b c = _
  rw [e, Int.instLawfulEqOrd.compare_self]
end Go.Fl
namespace Go.Proofs.YtpfjcfhgckpjmaaGreatDoor.Cz
open Go.Fl Go.RowKit Ieee Go.Proofs.YtpfjcfhgckpjmaaGreatDoor Go.Proofs.YtpfjcfhgckpjmaaGreatDoor.Cw Go.Proofs.YtpfjcfhgckpjmaaGreatDoor.Nn Go.Proofs.YtpfjcfhgckpjmaaGreatDoor.Nw Go.Proofs.YtpfjcfhgckpjmaaGreatDoorW.PrintWords
/-! ### numbers that are the same -/
theorem same52 (a b : Nat) (ha : a < 4294967296) (hb : b < 4294967296) (h : val .f32 a = val .f32 b) (w : World) : Calls Tryz.prog 52 #[.float .f32 a, .float .f32 b] w fun e w' => e = .returned (.bool true) ∧ w = w' := by
  have h1 := fun W => specBits a ha W
  have h2 := fun W => specBits b hb W
  rw [← h] at h2
  generalize bitsV (val .f32 a) = p at *
  clear h
  go_enter Tryz.func52, Tryz.ntmps52
  go_wp2_with (first | (go_at_call 78; ((with_reducible refine (h1 _).mono ?_); rintro e w' ⟨rfl, rfl⟩)) | (go_at_call 78; ((with_reducible refine (h2 _).mono ?_); rintro e w' ⟨rfl, rfl⟩)))
  go_ret
  exact ⟨by simp, rfl⟩
theorem same65 (a b c d : Nat) (ha : a < 4294967296) (hb : b < 4294967296) (hc : c < 4294967296) (hd : d < 4294967296) (h1 : val .f32 a = val .f32 c) (h2 : val .f32 b = val .f32 d) (w : World) :
    Calls Tryz.prog 65 #[.complex .f32 a b, .complex .f32 c d] w fun e w' => e = .returned (.bool true) ∧ w = w' := by
  have H1 := Lib.hid (same52 a c ha hc h1)
  have H2 := Lib.hid (same52 b d hb hd h2)
  have hs : ∀ W, Calls Tryz.prog 82 #[.complex .f32 a b, .complex .f32 c d] W fun e w' => e = .returned (.bool true) ∧ W = w' := by
    intro W
    clear ha hb hc hd h1 h2
    go_enter Tryz.func82, Tryz.ntmps82
    go_wp2_with (first | (go_at_call 52; ((with_reducible refine (H1.out _).mono ?_); rintro e w' ⟨rfl, rfl⟩)) | (go_at_call 52; ((with_reducible refine (H2.out _).mono ?_); rintro e w' ⟨rfl, rfl⟩)))
    go_ret
    exact ⟨rfl, rfl⟩
  clear ha hb hc hd h1 h2 H1 H2
  have HS := Lib.hid hs
  clear hs
  go_enter Tryz.func65, Tryz.ntmps65
  go_wp2_with (go_at_call 82; ((with_reducible refine (HS.out _).mono ?_); rintro e w' ⟨rfl, rfl⟩))
  go_ret
  exact ⟨rfl, rfl⟩
theorem sign83 (r : Nat) : ∃ s : Bool, ∀ W, Calls Tryz.prog 83 #[.float .f64 r] W fun e w' => e = .returned (.bool s) ∧ W = w' := by
  refine ⟨decide (wrap64 (r : Int) < 0), fun W => ?_⟩
  have hc := fun w => bits104 r w
  go_enter Tryz.func83, Tryz.ntmps83
  go_wp2
  go_ret
  exact ⟨rfl, rfl⟩
theorem same66 (a b : Nat) (ha : a < 4294967296) (hb : b < 4294967296) (h : val .f32 a = val .f32 b) (w : World) : Calls Tryz.prog 66 #[.float .f32 a, .float .f32 b] w fun e w' => e = .returned (.bool true) ∧ ∃ n, w' = w.drewN n := by
  cases hn : single.nan a with
  | true =>
    rw [val_nan (k := .f32) hn] at h
    have hm : single.nan b = true := Lw.val_none h.symm
    have o1 := neq_self .f32 a
    have o2 := neq_self .f32 b
    rw [show FloatKind.f32.format.nan a = true from hn] at o1
    rw [show FloatKind.f32.format.nan b = true from hm] at o2
    clear h hn hm ha hb
    go_enter Tryz.func66, Tryz.ntmps66
    go_wp2
    go_ret
    exact ⟨rfl, 0, rfl⟩
  | false =>
    have hv := val_num (k := .f32) hn
    rw [hv] at h
    obtain rfl : b = a := Lw.val_some h.symm
    have o1 := neq_self .f32 b
    rw [show FloatKind.f32.format.nan b = false from hn] at o1
    have o2 : (FloatKind.f32.format.order b b == some Ordering.eq) = true := by
      cases h : (FloatKind.f32.format.order b b == some Ordering.eq) with
      | true => rfl
      | false => rw [bne, h] at o1; cases o1
    have hI : Is .f32 b (some b) := ⟨hv, ha⟩
    obtain ⟨x, hx⟩ : ∃ x, widen (some b) = some x := ⟨_, rfl⟩
    obtain ⟨t, ht⟩ := sign83 x
    have HT := Lib.hid ht
    have HX := Lib.hid hx
    clear h hn hv ha hb ht hx
    go_enter Tryz.func66, Tryz.ntmps66
    go_wp2_with (first | (refine wpList_wi _ _ _ rfl rfl _ rfl (by kernel_rfl) (by kernel_rfl) hI ?_; intro r n hr; rw [HX.out] at hr; obtain ⟨rfl, -⟩ := hr.some) | (go_at_call 83; ((with_reducible refine (HT.out _).mono ?_); rintro e w' ⟨rfl, rfl⟩)))
    go_ret
    exact ⟨by simp, _, rfl⟩
theorem same34 (a b c d : Nat) (ha : a < 4294967296) (hb : b < 4294967296) (hc : c < 4294967296) (hd : d < 4294967296) (h1 : val .f32 a = val .f32 c) (h2 : val .f32 b = val .f32 d) (w : World) :
    Calls Tryz.prog 34 #[.complex .f32 a b, .complex .f32 c d] w fun e w' => e = .returned (.bool true) ∧ ∃ n, w' = w.drewN n := by
  have H1 := Lib.hid (same66 a c ha hc h1)
  have H2 := Lib.hid (same66 b d hb hd h2)
  clear ha hb hc hd h1 h2
  go_enter Tryz.func34, Tryz.ntmps34
  go_wp2_with (first | (go_at_call 66; ((with_reducible refine (H1.out _).mono ?_); rintro e w' ⟨rfl, n1, rfl⟩)) | (go_at_call 66; ((with_reducible refine (H2.out _).mono ?_); rintro e w' ⟨rfl, n2, rfl⟩)))
  go_ret
  exact ⟨rfl, _, rfl⟩
/-! ### conjugates, narrowed and finite numbers -/
theorem conj24 (p q : Nat) (w : World) : Calls Tryz.prog 24 #[.complex .f32 p q] w fun e w' => e = .returned (.complex .f32 p (Op.negFloat .f32 q)) ∧ w = w' := by
  have hn : ∀ W, Sem.run Tryz.prog (Op.unary UnOp.neg (Value.float .f32 q)) W = .ok (.float .f32 (Op.negFloat .f32 q)) W := fun W => rfl
  go_enter Tryz.func24, Tryz.ntmps24
  go_wp2
  go_ret
  exact ⟨rfl, rfl⟩
theorem neg_neg (q : Nat) : Op.negFloat .f32 (Op.negFloat .f32 q) = q := by
  unfold Op.negFloat
  rw [Nat.xor_assoc, Nat.xor_self, Nat.xor_zero]
theorem narrow35 (p q r s : Nat) (hp : p < 4294967296) (hq : q < 4294967296) (hr : Is .f64 r (widen (val .f32 p))) (hs : Is .f64 s (widen (val .f32 q))) (w : World) :
    Calls Tryz.prog 35 #[.complex .f64 r s] w (PostC (val .f32 p) (val .f32 q) w) := by
  obtain ⟨e1, h1⟩ := Lw.narrow_wide hp
  obtain ⟨e2, h2⟩ := Lw.narrow_wide hq
  have H1 := Lib.hid h1
  have H2 := Lib.hid h2
  have E1 := Lib.hid e1
  have E2 := Lib.hid e2
  clear h1 h2 e1 e2
  go_enter Tryz.func35, Tryz.ntmps35
  go_wp2_with (first | (refine wpList_na _ _ _ rfl rfl _ rfl (by kernel_rfl) (by kernel_rfl) hr H1.out ?_; intro p1 n1 hp1) | (refine wpList_na _ _ _ rfl rfl _ rfl (by kernel_rfl) (by kernel_rfl) hs H2.out ?_; intro p2 n2 hp2))
  go_ret
  rw [E1.out] at hp1
  rw [E2.out] at hp2
  exact PostC.mk hp1 hp2
theorem finite36 (p q : Nat) (w : World) : Calls Tryz.prog 36 #[.complex .f32 p q] w fun e w' => e = .returned (.bool (decide (single.rungOf p < single.infRung) && decide (single.rungOf q < single.infRung))) ∧ ∃ n, w' = w.drewN n := by
  have H1 := Lib.hid (isFinite73 p)
  have H2 := Lib.hid (isFinite73 q)
  generalize decide (single.rungOf p < single.infRung) = c at *
  generalize decide (single.rungOf q < single.infRung) = d at *
  cases c
  · go_enter Tryz.func36, Tryz.ntmps36
    go_wp2_with (first | (go_at_call 54; ((with_reducible refine (H1.out _).mono ?_); rintro e w' ⟨rfl, n1, rfl⟩)) | (go_at_call 54; ((with_reducible refine (H2.out _).mono ?_); rintro e w' ⟨rfl, n2, rfl⟩)))
    go_ret
    exact ⟨rfl, _, rfl⟩
  · go_enter Tryz.func36, Tryz.ntmps36
    go_wp2_with (first | (go_at_call 54; ((with_reducible refine (H1.out _).mono ?_); rintro e w' ⟨rfl, n1, rfl⟩)) | (go_at_call 54; ((with_reducible refine (H2.out _).mono ?_); rintro e w' ⟨rfl, n2, rfl⟩)))
    go_ret
    exact ⟨by simp, _, rfl⟩
/-! ### products, quotients, lengths -/
theorem quot27 (p q r s : Nat) (A B C D : Option Nat) (ha : Is .f32 p A) (hb : Is .f32 q B) (hc : Is .f32 r C) (hd : Is .f32 s D)
    (hu : NarrowOk (fop .quo .f64 (fop .sub .f64 (fop .mul .f64 (widen A) (widen C)) (fop .mul .f64 (widen B) (fneg (widen D)))) (fop .add .f64 (fop .mul .f64 (widen C) (widen C)) (fop .mul .f64 (widen D) (widen D)))))
    (hv : NarrowOk (fop .quo .f64 (fop .add .f64 (fop .mul .f64 (widen A) (fneg (widen D))) (fop .mul .f64 (widen B) (widen C))) (fop .add .f64 (fop .mul .f64 (widen C) (widen C)) (fop .mul .f64 (widen D) (widen D))))) (w : World) :
    Calls Tryz.prog 27 #[.complex .f32 p q, .complex .f32 r s] w (PostC (narrow (fop .quo .f64 (fop .sub .f64 (fop .mul .f64 (widen A) (widen C)) (fop .mul .f64 (widen B) (fneg (widen D)))) (fop .add .f64 (fop .mul .f64 (widen C) (widen C)) (fop .mul .f64 (widen D) (widen D))))) (narrow (fop .quo .f64 (fop .add .f64 (fop .mul .f64 (widen A) (fneg (widen D))) (fop .mul .f64 (widen B) (widen C))) (fop .add .f64 (fop .mul .f64 (widen C) (widen C)) (fop .mul .f64 (widen D) (widen D))))) w) := by
  have HU := Lib.hid hu
  have HV := Lib.hid hv
  clear hu hv
  go_enter Tryz.func27, Tryz.ntmps27
  go_wp2_with (first | (go_at_call 58; ((with_reducible refine (parts99 p q _ _ ha hb _).mono ?_); rintro e w' ⟨a1, b1, n1, rfl, ha1, hb1, rfl⟩)) | (go_at_call 58; ((with_reducible refine (parts99 r s _ _ hc hd _).mono ?_); rintro e w' ⟨c1, d1, n2, rfl, hc1, hd1, rfl⟩)) | (refine wpList_ne _ _ rfl rfl _ rfl hd1 ?_; intro e1 he1) | (go_at_call 59; ((with_reducible refine (times100 a1 b1 c1 e1 _ _ _ _ ha1 hb1 hc1 he1 _).mono ?_); rintro e w' ⟨u1, v1, n3, rfl, hu1, hv1, rfl⟩)) | (go_at_call 60; ((with_reducible refine (power97 r s _ _ hc hd _).mono ?_); rintro e w' ⟨p1, n4, rfl, hp1, rfl⟩)) | (refine wpList_ar _ _ _ _ _ rfl rfl rfl _ _ _ rfl rfl hu1 hp1 ?_; intro x1 n5 hx1) | (refine wpList_ar _ _ _ _ _ rfl rfl rfl _ _ _ rfl rfl hv1 hp1 ?_; intro y1 n6 hy1) | (refine wpList_na _ _ _ rfl rfl _ rfl (by kernel_rfl) (by kernel_rfl) hx1 HU.out ?_; intro x2 n7 hx2) | (refine wpList_na _ _ _ rfl rfl _ rfl (by kernel_rfl) (by kernel_rfl) hy1 HV.out ?_; intro y2 n8 hy2))
  go_ret
  exact PostC.mk hx2 hy2
theorem scale28 (p q r : Nat) (A B R : Option Nat) (ha : Is .f32 p A) (hb : Is .f32 q B) (hr : Is .f32 r R) (w : World) :
    Calls Tryz.prog 28 #[.complex .f32 p q, .float .f32 r] w (PostC (fop .mul .f32 A R) (fop .mul .f32 B R) w) := by
  go_enter Tryz.func28, Tryz.ntmps28
  go_wp2_with (first | (refine wpList_ar _ _ _ _ _ rfl rfl rfl _ _ _ rfl rfl ha hr ?_; intro x1 n1 hx1) | (refine wpList_ar _ _ _ _ _ rfl rfl rfl _ _ _ rfl rfl hb hr ?_; intro y1 n2 hy1))
  go_ret
  exact PostC.mk hx1 hy1
theorem long25 (p q : Nat) (u v : Option Nat) (hp : Is .f32 p u) (hq : Is .f32 q v) (hok : NarrowOk (fsqrt (fop .add .f64 (fop .mul .f64 (widen u) (widen u)) (fop .mul .f64 (widen v) (widen v))))) (w : World) :
    Calls Tryz.prog 25 #[.complex .f32 p q] w (Post32 (narrow (fsqrt (fop .add .f64 (fop .mul .f64 (widen u) (widen u)) (fop .mul .f64 (widen v) (widen v))))) w) := by
  have H := Lib.hid hok
  clear hok
  go_enter Tryz.func25, Tryz.ntmps25
  go_wp2_with (first | (go_at_call 60; ((with_reducible refine (power97 _ _ _ _ (by with_reducible assumption) (by with_reducible assumption) _).mono ?_); rintro e w' ⟨p1, n1, rfl, hp1, rfl⟩)) | (go_at_call 56; ((with_reducible refine (sqrt79' p1 _ hp1 _).mono ?_); rintro e w' ⟨s1, n2, rfl, hs1, rfl⟩)) | (refine wpList_na _ _ _ rfl rfl _ rfl (by kernel_rfl) (by kernel_rfl) hs1 H.out ?_; intro x2 n7 hx2))
  go_ret
  exact Post32.mk hx2
end Go.Proofs.YtpfjcfhgckpjmaaGreatDoor.Cz
set_option exponentiation.threshold 3000
set_option linter.unusedVariables false
set_option linter.unusedSimpArgs false
namespace Go.Proofs.YtpfjcfhgckpjmaaGreatDoor.Cz
open Go.Fl Go.RowKit Ieee Go.Proofs.YtpfjcfhgckpjmaaGreatDoor Go.Proofs.YtpfjcfhgckpjmaaGreatDoor.Cw Go.Proofs.YtpfjcfhgckpjmaaGreatDoor.Nn Go.Proofs.YtpfjcfhgckpjmaaGreatDoor.Nw Go.Proofs.YtpfjcfhgckpjmaaGreatDoor.Sr Go.Proofs.YtpfjcfhgckpjmaaGreatDoorW.PrintWords
theorem fin67 (b : Nat) (w : World) : Calls Tryz.prog 67 #[.float .f32 b] w fun e w' => e = .returned (.bool (decide (single.rungOf b < single.infRung))) ∧ ∃ n, w' = w.drewN n := by
  go_enter Tryz.func67, Tryz.ntmps67
  go_wp2_with (refine wpList_farith _ _ _ _ _ rfl rfl rfl _ _ _ rfl rfl ?_; intro r n hr)
  go_ret
  exact ⟨by rw [← show _ = decide (single.rungOf b < single.infRung) from fin_test .f32 b _ hr]; rfl, _, rfl⟩
theorem fin37 (b : Nat) (w : World) : Calls Tryz.prog 37 #[.float .f32 b] w fun e w' => e = .returned (.bool (decide (single.rungOf b < single.infRung))) ∧ ∃ n, w' = w.drewN n := by
  have H := Lib.hid (fin67 b)
  generalize decide (single.rungOf b < single.infRung) = c at *
  go_enter Tryz.func37, Tryz.ntmps37
  go_wp2_with (go_at_call 67; ((with_reducible refine (H.out _).mono ?_); rintro e w' ⟨rfl, n1, rfl⟩))
  go_ret
  exact ⟨rfl, _, rfl⟩
theorem val_bits (b : Nat) : val .f32 (bitsV (val .f32 b)).toNat = val .f32 b := by
  cases hn : single.nan b with
  | true => rw [val_nan (k := .f32) hn]; decide +kernel
  | false =>
    rw [val_num (k := .f32) hn]
    show val .f32 ((b : Int)).toNat = some b
    rw [Int.toNat_natCast, val_num (k := .f32) hn]
/-- What is told of a list that is read back. -/
structure Back (ds ys : List Int) : Prop where
  len : ds.length = ys.length
  rea : ∀ i : Nat, i < ys.length → Hc.re (rd ds i) < 4294967296 ∧ val .f32 (Hc.re (rd ds i)) = val .f32 (Hc.re (rd ys i))
  ima : ∀ i : Nat, i < ys.length → Hc.im (rd ds i) < 4294967296 ∧ val .f32 (Hc.im (rd ds i)) = val .f32 (Hc.im (rd ys i))
theorem rd_is (l : List Int) (i : Nat) (hi : i < l.length) : rd l i = l[i] := by
  unfold rd
  simp [List.getD_eq_getElem?_getD, hi]
theorem okC_rd {ys : List Int} (h : okC ys) (i : Nat) (hi : i < ys.length) : Hc.re (rd ys i) < 4294967296 ∧ Hc.im (rd ys i) < 4294967296 := by
  rw [rd_is ys i hi]
  exact h _ (List.getElem_mem hi)
open Cq.FnExactReadComplexParts in
theorem read_back (ys : List Int) (hok : okC ys) (hn : ys.length ≤ 40) : ∃ (t : ByteArray) (ds : List Int), QFnExactReadComplex.impl_ComplexText.f 400 ys = some (t, true) ∧ QFnExactReadComplex.impl_ReadComplex.f 600 t = some (ds, true) ∧ Back ds ys := by
  have hok2 : okL2 ys := by
    intro c hc
    obtain ⟨h1, h2⟩ := hok c hc
    exact ⟨⟨by unfold Hc.reI; omega, by unfold Hc.reI; omega⟩, ⟨by unfold Hc.imI; omega, by unfold Hc.imI; omega⟩⟩
  obtain ⟨t, h1, h2⟩ := read_text ys hok2 hn
  have hl : (ys.map nb).length = ys.length := List.length_map _
  refine ⟨t, _, h1, h2, hl, fun i hi => ?_, fun i hi => ?_⟩
  all_goals
    rw [rd_is _ i (by rw [hl]; exact hi), rd_is ys i hi, List.getElem_map]
    obtain ⟨g1, g2⟩ := hok2 _ (List.getElem_mem hi)
  · have e : Hc.re (nb ys[i]) = nbits (Hc.reI ys[i]) := by have := re_nb ys[i]; unfold Hc.reI at this ⊢; omega
    rw [e]
    have := nbits_lt _ g1
    exact ⟨this, val_bits _⟩
  · have e : Hc.im (nb ys[i]) = nbits (Hc.imI ys[i]) := by have := im_nb ys[i]; unfold Hc.imI at this ⊢; omega
    rw [e]
    have := nbits_lt _ g2
    exact ⟨this, val_bits _⟩
theorem atc_is {w : World} {A : Option Addr} {ys : List Int} (hC : Hc.Kc.C w A ys.length ys) (i : Nat) (hi : i < ys.length) : ∃ ad, A = some ad ∧ w.cell? (ad.add i) = some (.complex .f32 (Hc.re (rd ys i)) (Hc.im (rd ys i))) := Hc.at_cpx hC (i : Int) (by omega) (by omega)
set_option maxRecDepth 100000 in
theorem same33 (A B : Option Addr) (ca cb : Nat) (ds ys : List Int) (w : World) (hn : ys.length ≤ 40) (hD : Hc.Kc.C w A ds.length ds) (hC : Hc.Kc.C w B ys.length ys) (hok : okC ys) (hb : Back ds ys) :
    Calls Tryz.prog 33 #[.slice A ys.length ca, .slice B ys.length cb] w fun e w' => e = .returned (.bool true) ∧ ∃ n, w' = w.drewN n := by
  have HC := Lib.hid hC
  have HD := Lib.hid hD
  have HB := Lib.hid hb
  have HN := Lib.hid hn
  have HK := Lib.hid hok
  clear hC hD hb hok
  go_enter Tryz.func33, Tryz.ntmps33
  go_wp2
  go_loopg [13] ys.length (fun q u13 w' => ∃ i : Nat, Hid (i + q = ys.length) ∧ u13 = .int .i64 (i : Nat) ∧ ∃ m, w' = w.drewN m)
  case atStart => exact ⟨0, Lib.hid (by omega), rfl, 0, rfl⟩
  case round =>
    obtain ⟨i, hi, rfl, n9, hwr⟩ := hrel
    cases gk with
    | zero =>
      obtain rfl : i = ys.length := by have := hi.out; omega
      clear hi
      subst hwr
      go_wp2
      go_ret
      exact ⟨rfl, _, rfl⟩
    | succ q =>
      have hlt : i < ys.length := by have := hi.out; omega
      have hlt2 : (i : Int) < (ys.length : Int) := by omega
      obtain ⟨ad, rfl, hc⟩ := atc_is HC.out i hlt
      obtain ⟨ad5, rfl, hc5⟩ := atc_is HD.out i (by rw [HB.out.len]; exact hlt)
      have hca : wr.cell? (ad.add i) = some (.complex .f32 (Hc.re (rd ys i)) (Hc.im (rd ys i))) := by rw [hwr]; exact hc
      have hcb : wr.cell? (ad5.add i) = some (.complex .f32 (Hc.re (rd ds i)) (Hc.im (rd ds i))) := by rw [hwr]; exact hc5
      have HW := Lib.hid hwr
      have hw := up40 i ys.length (by omega) HN.out
      have hq := Lib.hid (same65 _ _ _ _ (HB.out.rea i hlt).1 (HB.out.ima i hlt).1 (okC_rd HK.out i hlt).1 (okC_rd HK.out i hlt).2 (HB.out.rea i hlt).2 (HB.out.ima i hlt).2)
      clear hwr hc hc5
      go_wp2
      go_quiet ((go_at_call 65; with_reducible refine Calls.quiet_of_same ((hq.out _).mono fun e w' hh => ⟨hh.1, hh.2.symm⟩)))
      go_wp2
      go_roundg q
      case measure => omega
      case rel => exact ⟨i + 1, Lib.hid (by have := hi.out; omega), (by first | rfl | exact congrArg (Value.int .i64) hw), _, (by rw [HW.out, World.drewN_drewN])⟩
/-! ### small integers -/
theorem bnd {i k : Int} {a b : Nat} (hi : i.natAbs ≤ a) (hk : k.natAbs ≤ b) : (i * k).natAbs ≤ a * b := by
  rw [Int.natAbs_mul]
  exact Nat.mul_le_mul hi hk
theorem sumb (x y : Int) {a b : Nat} (h1 : x.natAbs ≤ a) (h2 : y.natAbs ≤ b) : (x + y).natAbs ≤ a + b ∧ (x - y).natAbs ≤ a + b := by omega
theorem cmul {p q r s : Nat} {i j k l : Int} (hp : S32 p i) (hq : S32 q j) (hr : S32 r k) (hs : S32 s l) (hi : i.natAbs ≤ 200) (hj : j.natAbs ≤ 200) (hk : k.natAbs ≤ 200) (hl : l.natAbs ≤ 200) (w : World) :
    Calls Tryz.prog 22 #[.complex .f32 p q, .complex .f32 r s] w fun e w' => ∃ x y n, e = .returned (.complex .f32 x y) ∧ S32 x (i * k - j * l) ∧ S32 y (i * l + j * k) ∧ w' = w.drewN n := by
  have b1 := bnd hi hk
  have b2 := bnd hj hl
  have b3 := bnd hi hl
  have b4 := bnd hj hk
  have c1 := (sumb _ _ b1 b2).2
  have c2 := (sumb _ _ b3 b4).1
  have z1 := zsub (zmul (zwiden hp.zv) (zwiden hr.zv) (by simp only [top]; omega)) (zmul (zwiden hq.zv) (zwiden hs.zv) (by simp only [top]; omega)) (by simp only [top]; omega)
  have z2 := zadd (zmul (zwiden hp.zv) (zwiden hs.zv) (by simp only [top]; omega)) (zmul (zwiden hq.zv) (zwiden hr.zv) (by simp only [top]; omega)) (by simp only [top]; omega)
  obtain ⟨y1, n1⟩ := znarrow z1 (by simp only [top]; omega)
  obtain ⟨y2, n2⟩ := znarrow z2 (by simp only [top]; omega)
  refine (mul58 p q r s _ _ _ _ hp.is hq.is hr.is hs.is n1 n2 w).mono ?_
  rintro e w' ⟨x, y, n, rfl, hx, hy, rfl⟩
  exact ⟨x, y, n, rfl, S32.of hx y1, S32.of hy y2, rfl⟩
theorem zpower {p q : Nat} {i j : Int} (hp : S32 p i) (hq : S32 q j) (hi : i.natAbs ≤ 200) (hj : j.natAbs ≤ 200) :
    ZV .f64 (fop .add .f64 (fop .mul .f64 (widen (some p)) (widen (some p))) (fop .mul .f64 (widen (some q)) (widen (some q)))) (i * i + j * j) := by
  have b1 := bnd hi hi
  have b2 := bnd hj hj
  have c1 := (sumb _ _ b1 b2).1
  exact zadd (zmul (zwiden hp.zv) (zwiden hp.zv) (by simp only [top]; omega)) (zmul (zwiden hq.zv) (zwiden hq.zv) (by simp only [top]; omega)) (by simp only [top]; omega)
theorem cpow {p q : Nat} {i j : Int} (hp : S32 p i) (hq : S32 q j) (hi : i.natAbs ≤ 200) (hj : j.natAbs ≤ 200) (w : World) :
    Calls Tryz.prog 23 #[.complex .f32 p q] w fun e w' => ∃ x n, e = .returned (.float .f32 x) ∧ S32 x (i * i + j * j) ∧ w' = w.drewN n := by
  have z := zpower hp hq hi hj
  have b1 := bnd hi hi
  have b2 := bnd hj hj
  have c1 := (sumb _ _ b1 b2).1
  obtain ⟨y1, n1⟩ := znarrow z (by simp only [top]; omega)
  refine (powerOf56 p q _ _ hp.is hq.is n1 w).mono ?_
  rintro e w' ⟨x, n, rfl, hx, rfl⟩
  exact ⟨x, n, rfl, S32.of hx y1, rfl⟩
theorem cscale {p q : Nat} {i j : Int} (hp : S32 p i) (hq : S32 q j) (hi : i.natAbs ≤ 200) (hj : j.natAbs ≤ 200) (w : World) :
    Calls Tryz.prog 28 #[.complex .f32 p q, .float .f32 1073741824] w fun e w' => ∃ x y n, e = .returned (.complex .f32 x y) ∧ S32 x (i + i) ∧ S32 y (j + j) ∧ w' = w.drewN n := by
  have h2 : S32 1073741824 2 := ⟨by decide, by decide +kernel, by decide +kernel⟩
  have z1 := (zmul hp.zv h2.zv (by simp only [top]; omega)).cast (show i * 2 = i + i by omega)
  have z2 := (zmul hq.zv h2.zv (by simp only [top]; omega)).cast (show j * 2 = j + j by omega)
  refine (scale28 p q _ _ _ _ hp.is hq.is h2.is w).mono ?_
  rintro e w' ⟨x, y, n, rfl, hx, hy, rfl⟩
  exact ⟨x, y, n, rfl, S32.of hx z1, S32.of hy z2, rfl⟩
theorem ring1 (i j k l : Int) : (i * k - j * l) * k - (i * l + j * k) * (-l) = i * (k * k + l * l) := by grind
theorem ring2 (i j k l : Int) : (i * k - j * l) * (-l) + (i * l + j * k) * k = j * (k * k + l * l) := by grind
theorem sq_pos {k l : Int} (h : ¬ (k = 0 ∧ l = 0)) : k * k + l * l ≠ 0 := by
  have h1 : 0 ≤ k * k := by rcases Int.le_total 0 k with h | h; exact Int.mul_nonneg h h; exact Int.mul_nonneg_of_nonpos_of_nonpos h h
  have h2 : 0 ≤ l * l := by rcases Int.le_total 0 l with h | h; exact Int.mul_nonneg h h; exact Int.mul_nonneg_of_nonpos_of_nonpos h h
  intro e
  have e1 : k * k = 0 := by omega
  have e2 : l * l = 0 := by omega
  exact h ⟨by rcases Int.mul_eq_zero.1 e1 with h | h <;> exact h, by rcases Int.mul_eq_zero.1 e2 with h | h <;> exact h⟩
theorem cquot {p q r s : Nat} {i j k l : Int} (hp : S32 p (i * k - j * l)) (hq : S32 q (i * l + j * k)) (hr : S32 r k) (hs : S32 s l) (hi : i.natAbs ≤ 200) (hj : j.natAbs ≤ 200) (hk : k.natAbs ≤ 200) (hl : l.natAbs ≤ 200) (h0 : ¬ (k = 0 ∧ l = 0)) (w : World) :
    Calls Tryz.prog 27 #[.complex .f32 p q, .complex .f32 r s] w fun e w' => ∃ x y n, e = .returned (.complex .f32 x y) ∧ S32 x i ∧ S32 y j ∧ w' = w.drewN n := by
  have b1 := bnd hi hk
  have b2 := bnd hj hl
  have b3 := bnd hi hl
  have b4 := bnd hj hk
  have c1 := (sumb _ _ b1 b2).2
  have c2 := (sumb _ _ b3 b4).1
  have hl' : (-l).natAbs ≤ 200 := by omega
  have d1 := bnd c1 hk
  have d2 := bnd c2 hl'
  have d3 := bnd c1 hl'
  have d4 := bnd c2 hk
  have e1 := (sumb _ _ d1 d2).2
  have e2 := (sumb _ _ d3 d4).1
  have zp := zpower hr hs hk hl
  have z1 := (zsub (zmul (zwiden hp.zv) (zwiden hr.zv) (by simp only [top]; omega)) (zmul (zwiden hq.zv) (zneg (zwiden hs.zv)) (by simp only [top]; omega)) (by simp only [top]; omega)).cast (ring1 i j k l)
  have z2 := (zadd (zmul (zwiden hp.zv) (zneg (zwiden hs.zv)) (by simp only [top]; omega)) (zmul (zwiden hq.zv) (zwiden hr.zv) (by simp only [top]; omega)) (by simp only [top]; omega)).cast (ring2 i j k l)
  have q1 := zquo z1 zp (sq_pos h0) (by simp only [top]; omega)
  have q2 := zquo z2 zp (sq_pos h0) (by simp only [top]; omega)
  obtain ⟨y1, n1⟩ := znarrow q1 (by simp only [top]; omega)
  obtain ⟨y2, n2⟩ := znarrow q2 (by simp only [top]; omega)
  refine (quot27 p q r s _ _ _ _ hp.is hq.is hr.is hs.is n1 n2 w).mono ?_
  rintro e w' ⟨x, y, n, rfl, hx, hy, rfl⟩
  exact ⟨x, y, n, rfl, S32.of hx y1, S32.of hy y2, rfl⟩
/-- The power in 64 bits is that of 32 bits, widened. -/
theorem power_wide (i j : Int) (hi : i.natAbs ≤ 200) (hj : j.natAbs ≤ 200) :
    fop .add .f64 (fop .mul .f64 (widen (some (floatOfInt .f32 i))) (widen (some (floatOfInt .f32 i)))) (fop .mul .f64 (widen (some (floatOfInt .f32 j))) (widen (some (floatOfInt .f32 j)))) = widen (val .f32 (floatOfInt .f32 (i * i + j * j))) := by
  have b1 := bnd hi hi
  have b2 := bnd hj hj
  have c1 := (sumb _ _ b1 b2).1
  have hS := S32.mk (i * i + j * j) (by omega)
  rw [hS.is.1]
  by_cases h0 : i = 0 ∧ j = 0
  · obtain ⟨rfl, rfl⟩ := h0
    decide +kernel
  · exact zinj (zpower (S32.mk i (by omega)) (S32.mk j (by omega)) hi hj) (zwiden hS.zv) (sq_pos h0)
theorem clong (i j : Int) (hi : i.natAbs ≤ 200) (hj : j.natAbs ≤ 200) (w : World) :
    Calls Tryz.prog 25 #[.complex .f32 (floatOfInt .f32 i) (floatOfInt .f32 j)] w (Post32 (rootV (floatOfInt .f32 (i * i + j * j))) w) := by
  have hp := S32.mk i (by omega)
  have hq := S32.mk j (by omega)
  have e := power_wide i j hi hj
  have := long25 _ _ _ _ hp.is hq.is (by rw [e]; exact root_narrow _) w
  rw [e] at this
  exact this
theorem root26 (b : Nat) (w : World) : Calls Tryz.prog 26 #[.float .f32 b] w (Post32 (rootV b) w) := spec36 b w
/-- A complex number and itself, added. -/
theorem cdouble (i j : Int) (hi : i.natAbs ≤ 200) (hj : j.natAbs ≤ 200) : ∃ x y, S32 x (i + i) ∧ S32 y (j + j) ∧ ∀ W, (binOp .add 42 (.complex .f32 (floatOfInt .f32 i) (floatOfInt .f32 j)) (.complex .f32 (floatOfInt .f32 i) (floatOfInt .f32 j))).run Tryz.prog W = .ok (.complex .f32 x y) W := by
  have hp := S32.mk i (by omega)
  have hq := S32.mk j (by omega)
  obtain ⟨x, h1, h2⟩ := Z.add fine32 hp hp (show (i + i).natAbs < 16777216 by omega)
  obtain ⟨y, h3, h4⟩ := Z.add fine32 hq hq (show (j + j).natAbs < 16777216 by omega)
  refine ⟨x, y, h2, h4, fun W => run_complex_sum W .add (.inl rfl) _ _ _ _ _ _ _ _ ?_⟩
  unfold cSumBits
  have e1 : floatBits .add .f32 (floatOfInt .f32 i) (floatOfInt .f32 i) = some x := h1
  have e2 : floatBits .add .f32 (floatOfInt .f32 j) (floatOfInt .f32 j) = some y := h3
  rw [e1, e2]
  rfl
theorem toI_all : ∀ z : Nat, z < 401 → floatToIntVal .f32 (floatOfInt .f32 ((z : Int) - 200)) .i64 = some ((z : Int) - 200) := by decide +kernel
theorem toI (i : Int) (h0 : -200 ≤ i) (h1 : i ≤ 200) : floatToIntVal .f32 (floatOfInt .f32 i) .i64 = some i := by
  have := toI_all (i + 200).toNat (by omega)
  rwa [show (((i + 200).toNat : Nat) : Int) - 200 = i by omega] at this
theorem ne0_all : ∀ z : Nat, z < 401 → FloatKind.f32.format.order (floatOfInt .f32 ((z : Int) - 200)) 0 = some (compare ((z : Int) - 200) 0) := by decide +kernel
theorem ne0 (i : Int) (h0 : -200 ≤ i) (h1 : i ≤ 200) : FloatKind.f32.format.order (floatOfInt .f32 i) 0 = some (compare i 0) := by
  have := ne0_all (i + 200).toNat (by omega)
  rwa [show (((i + 200).toNat : Nat) : Int) - 200 = i by omega] at this
end Go.Proofs.YtpfjcfhgckpjmaaGreatDoor.Cz
set_option linter.unusedVariables false
set_option linter.unusedSimpArgs false
namespace Go.Proofs.YtpfjcfhgckpjmaaGreatDoor.Np
open Go.Fl Go.RowKit Ieee Go.Proofs.YtpfjcfhgckpjmaaGreatDoor Go.Proofs.YtpfjcfhgckpjmaaGreatDoor.Cw Go.Proofs.YtpfjcfhgckpjmaaGreatDoor.Sr Go.Proofs.YtpfjcfhgckpjmaaGreatDoor.Nw Go.Proofs.YtpfjcfhgckpjmaaGreatDoor.Nn Go.Proofs.YtpfjcfhgckpjmaaGreatDoor.Cz Go.Proofs.YtpfjcfhgckpjmaaGreatDoorW.PrintWords
theorem Zc {b : Nat} {m n : Int} (h : S32 b m) (e : m = n) : S32 b n := e ▸ h
theorem comm1 (i j k l : Int) : k * i - l * j = i * k - j * l := by grind
theorem comm2 (i j k l : Int) : k * j + l * i = i * l + j * k := by grind
theorem comm3 (i j : Int) : i * i - j * -j = i * i + j * j := by grind
theorem comm4 (i j : Int) : i * -j + j * i = 0 := by grind
theorem zero0 : S32 0 0 := ⟨by decide, by decide +kernel, by decide +kernel⟩
theorem na {i : Int} (h : -200 ≤ i ∧ i ≤ 200) : i.natAbs ≤ 200 := by omega
theorem nna {i : Int} (h : i.natAbs ≤ 200) : (-i).natAbs ≤ 200 := by omega
theorem wrapped (x : Int) {a : Nat} (h : x.natAbs ≤ a) (ha : a ≤ 80000) : wrap64 x = x := by unfold wrap64; omega
theorem cmp_ne {k : Int} (h : ¬ k = 0) (o : Option Ordering) (e : o = some (compare k 0)) : (o == some Ordering.eq) = false := by
  rw [e]
  have : compare k 0 ≠ Ordering.eq := fun h1 => h (Int.compare_eq_eq.1 h1)
  cases h2 : compare k 0 <;> first | rfl | exact absurd h2 this
theorem cmp_eq {k : Int} (h : k = 0) (o : Option Ordering) (e : o = some (compare k 0)) : o = some Ordering.eq := by
  rw [e, h]; rfl
set_option maxHeartbeats 8000000 in
set_option maxRecDepth 100000 in
theorem products_no (a0 : Option Addr) (len0 cap0 : Nat) (z0 : List Int) (a1 : Option Addr) (len1 cap1 : Nat) (z1 : List Int) (w : World) (h0 : IsRow .u8 w a0 len0 cap0 z0) (h1 : IsRow .u8 w a1 len1 cap1 z1) (hs : Hs.HS w)
    (hl : (decide (1048576 < len0) || decide (1048576 < len1)) = false) :
    Calls Tryz.prog 4 #[.slice a0 len0 cap0, .slice a1 len1 cap1] w fun e w' => e = .returned (.bool true) ∧ Below w.heap.size w w' := by
  have c0 := long30 a0 len0 cap0 a1 len1 cap1 (by have := h0.len; omega) (by have := h1.len; omega) w
  rw [hl] at c0
  have HR0 := Lib.hid h0
  have HR1 := Lib.hid h1
  have HT := Lib.hid hs
  have C0 := Lib.hid c0
  clear h0 h1 hs hl c0
  go_enter Tryz.func4, Tryz.ntmps4
  have B := Lib.hid (Below.refl w.heap.size w)
  go_upto_region 3 with (go_at_call 5; ((with_reducible refine C0.out.mono ?_); rintro e w' ⟨rfl, rfl⟩))
  go_upto_region 4 with (go_at_call 21; ((with_reducible refine (whole21 (IsRow.at_ HR0.out (by first | exact B.out | exact pw_below_drewN B.out _))).mono ?_); rintro e w1 ⟨Ap, cpp, i, j, x1, x2, x3, x4, rfl, hcp, b1⟩); have hbi := Lib.hid (And.intro x1 x2); have hbj := Lib.hid (And.intro x3 x4); clear x1 x2 x3 x4; have B0 := Lib.hid (on (by first | exact B.out | exact pw_below_drewN B.out _) b1); clear B; have B := B0; clear B0; clear b1)
  clear hcp
  go_upto_region 5 with (go_at_call 21; ((with_reducible refine (whole21 (IsRow.at_ HR1.out (by first | exact B.out | exact pw_below_drewN B.out _))).mono ?_); rintro e w1 ⟨Aq, cpq, k, l, x1, x2, x3, x4, rfl, hcq, b1⟩); have hbk := Lib.hid (And.intro x1 x2); have hbl := Lib.hid (And.intro x3 x4); clear x1 x2 x3 x4; have B0 := Lib.hid (on (by first | exact B.out | exact pw_below_drewN B.out _) b1); clear B; have B := B0; clear B0; clear b1)
  clear hcq
  have ni := Lib.hid (na hbi.out)
  have nj := Lib.hid (na hbj.out)
  have nk := Lib.hid (na hbk.out)
  have nl := Lib.hid (na hbl.out)
  have Si := Lib.hid (S32.mk i (by have := ni.out; omega))
  have Sj := Lib.hid (S32.mk j (by have := nj.out; omega))
  have Sk := Lib.hid (S32.mk k (by have := nk.out; omega))
  have Sl := Lib.hid (S32.mk l (by have := nl.out; omega))
  go_upto_region 6 with (go_at_call 22; ((with_reducible refine (cmul Si.out Sj.out Sk.out Sl.out ni.out nj.out nk.out nl.out _).mono ?_); rintro e w' ⟨u, v, m1, rfl, hu0, hv0, rfl⟩); have hu := Lib.hid hu0; have hv := Lib.hid hv0; clear hu0 hv0)
  have Fi := Lib.hid (toI i hbi.out.1 hbi.out.2)
  have Fj := Lib.hid (toI j hbj.out.1 hbj.out.2)
  have Fk := Lib.hid (toI k hbk.out.1 hbk.out.2)
  have Fl := Lib.hid (toI l hbl.out.1 hbl.out.2)
  have b1 := bnd ni.out nk.out
  have b2 := bnd nj.out nl.out
  have b3 := bnd ni.out nl.out
  have b4 := bnd nj.out nk.out
  have b5 := bnd ni.out ni.out
  have b6 := bnd nj.out nj.out
  have W1 := wrapped (i * k) b1 (by omega)
  have W2 := wrapped (j * l) b2 (by omega)
  have W3 := wrapped (i * k - j * l) (sumb _ _ b1 b2).2 (by omega)
  have W4 := wrapped (i * l) b3 (by omega)
  have W5 := wrapped (j * k) b4 (by omega)
  have W6 := wrapped (i * l + j * k) (sumb _ _ b3 b4).1 (by omega)
  have W7 := wrapped (i * i) b5 (by omega)
  have W8 := wrapped (j * j) b6 (by omega)
  have W9 := wrapped (i * i + j * j) (sumb _ _ b5 b6).1 (by omega)
  have SX := Lib.hid (S32.mk (i * k - j * l) (by have := (sumb _ _ b1 b2).2; omega))
  have SY := Lib.hid (S32.mk (i * l + j * k) (by have := (sumb _ _ b3 b4).1; omega))
  have SP := Lib.hid (S32.mk (i * i + j * j) (by have := (sumb _ _ b5 b6).1; omega))
  clear b1 b2 b3 b4 b5 b6
  go_upto_region 7 with (refine wpList_ftoi _ _ _ rfl rfl _ _ _ rfl (by kernel_rfl) (by kernel_rfl) (by first | with_reducible exact Fi.out | with_reducible exact Fj.out | with_reducible exact Fk.out | with_reducible exact Fl.out) ?_)
  go_upto_region 8 with (refine wpList_ftoi _ _ _ rfl rfl _ _ _ rfl (by kernel_rfl) (by kernel_rfl) (by first | with_reducible exact Fi.out | with_reducible exact Fj.out | with_reducible exact Fk.out | with_reducible exact Fl.out) ?_)
  go_upto_region 9 with (refine wpList_ftoi _ _ _ rfl rfl _ _ _ rfl (by kernel_rfl) (by kernel_rfl) (by first | with_reducible exact Fi.out | with_reducible exact Fj.out | with_reducible exact Fk.out | with_reducible exact Fl.out) ?_)
  rw [W9]
  clear W1 W2 W3 W4 W5 W6 W7 W8 W9 Fi Fj Fk Fl
  have o1 := S32.eq hu.out SX.out
  have o2 := S32.eq hv.out SY.out
  have nn := Lib.hid (nna nj.out)
  have Sn : Hid (S32 (Op.negFloat .f32 (floatOfInt .f32 j)) (-j)) := Lib.hid (Z.negz Sj.out)
  go_upto_region 11 with (first | (go_at_call 22; ((with_reducible refine (cmul Sk.out Sl.out Si.out Sj.out nk.out nl.out ni.out nj.out _).mono ?_); rintro e w' ⟨u2, v2, m2, rfl, hu2, hv2, rfl⟩); have o3 := S32.eq (Zc hu2 (comm1 i j k l)) hu.out; have o4 := S32.eq (Zc hv2 (comm2 i j k l)) hv.out; clear hu2 hv2) | (go_at_call 22; ((with_reducible refine (cmul Si.out Sj.out Si.out Sn.out ni.out nj.out ni.out nn.out _).mono ?_); rintro e w' ⟨u3, v3, m3, rfl, hu3, hv3, rfl⟩); have o6 := S32.eq (Zc hu3 (comm3 i j)) SP.out; have o7 := S32.eq (Zc hv3 (comm4 i j)) zero0; clear hu3 hv3) | (go_at_call 23; ((with_reducible refine (cpow Si.out Sj.out ni.out nj.out _).mono ?_); rintro e w' ⟨x3, m4, rfl, hx3, rfl⟩); have o5 := S32.eq hx3 SP.out; clear hx3) | (go_at_call 24; ((with_reducible refine (conj24 _ _ _).mono ?_); rintro e w' ⟨rfl, rfl⟩)) | (go_at_call 25; ((with_reducible refine (clong i j ni.out nj.out _).mono ?_); rintro e w' ⟨g1, m5, rfl, hg1, rfl⟩); have hG1 := Lib.hid hg1; clear hg1) | (go_at_call 26; ((with_reducible refine (root26 _ _).mono ?_); rintro e w' ⟨g2, m6, rfl, hg2, rfl⟩); have hA1 := Lib.hid (show g1 < 4294967296 from hG1.out.2); have hA2 := Lib.hid (show g2 < 4294967296 from hg2.2); have hA3 := Lib.hid (show val .f32 g1 = val .f32 g2 from hG1.out.1.trans hg2.1.symm); clear hg2) | (go_at_call 15; ((with_reducible refine (same_val g1 g2 hA1.out hA2.out hA3.out _).mono ?_); rintro e w' ⟨rfl, rfl⟩)))
  obtain ⟨xa, ya, hxa, hya, hadd⟩ := cdouble i j ni.out nj.out
  have hax := Lib.hid hxa
  have hay := Lib.hid hya
  clear hxa hya
  by_cases hk0 : k = 0
  · by_cases hl0 : l = 0
    · have r1 := cmp_eq hk0 _ (ne0 k hbk.out.1 hbk.out.2)
      have r2 := cmp_eq hl0 _ (ne0 l hbl.out.1 hbl.out.2)
      clear hk0 hl0
      go_upto_region 13 with (first | (go_at_call 28; ((with_reducible refine (cscale Si.out Sj.out ni.out nj.out _).mono ?_); rintro e w' ⟨x6, y6, m8, rfl, hx6, hy6, rfl⟩); have o10 := S32.eq hx6 hax.out; have o11 := S32.eq hy6 hay.out; clear hx6 hy6))
      clear o1 o2 hadd
      go_upto_region 14 with (first | (go_at_call 11; ((with_reducible refine (b10at_0_9 a0 len0 cap0 z0 _ (IsRow.at_ HR0.out (by first | exact B.out | exact pw_below_drewN B.out _))).mono ?_); rintro e w' ⟨m, hm0, rfl, n3, rfl⟩); have hm := Lib.hid hm0; clear hm0) | (go_at_call 29; ((with_reducible refine (any29 m (by have := hm.out; omega) (IsRow.at_ HR1.out (by first | exact B.out | exact pw_below_drewN B.out _))).mono ?_); rintro e w3 ⟨vv, ys, rfl, hR0, hlen0, hok0, b3⟩); obtain ⟨A, cp, rfl⟩ := Kd.R_slice hR0; have hC := Lib.hid (Kd.R_reads' hR0).2.2; have hcp := Lib.hid (Kd.R_reads' hR0).2.1; have hlen := Lib.hid (show ys.length ≤ 40 by have := hm.out; omega); have hok := Lib.hid hok0; have B0 := Lib.hid (on (by first | exact B.out | exact pw_below_drewN B.out _) b3); clear B; have B := B0; clear B0; clear hR0 hlen0 hok0 b3))
      obtain ⟨t, ds, ht1, ht2, hb0⟩ := read_back ys hok.out hlen.out
      have T1 := Lib.hid ht1
      have T2 := Lib.hid ht2
      have hback := Lib.hid hb0
      clear ht1 ht2 hb0
      go_upto_region 16 with (first | (go_at_call 30; ((with_reducible refine (QFnExactReadComplex.impl_ComplexText.calls 400 A cp ys t true _ (HT.out.below (by first | exact B.out | exact pw_below_drewN B.out _)) (by first | exact hC.out | exact Kd.C_drewN hC.out _) hcp.out T1.out).mono ?_); rintro e w4 ⟨rfl, b4⟩); have hC4 := Lib.hid (Kd.C_below (by first | exact hC.out | exact Kd.C_drewN hC.out _) b4); clear hC; have hC := hC4; clear hC4; have B0 := Lib.hid (on (by first | exact B.out | exact pw_below_drewN B.out _) b4); clear B; have B := B0; clear B0; clear b4) | (go_at_call 31; ((with_reducible refine (QFnExactReadComplex.impl_ReadComplex.calls 600 t ds true _ (HT.out.below (by first | exact B.out | exact pw_below_drewN B.out _)) T2.out).mono ?_); rintro e w5 ⟨v5, rfl, hR5, b5⟩); obtain ⟨A5, cp5, rfl⟩ := Kd.R_slice hR5; have hD := Lib.hid (Kd.R_reads' hR5).2.2; rw [hback.out.len]; have hC4 := Lib.hid (Kd.C_below (by first | exact hC.out | exact Kd.C_drewN hC.out _) b5); clear hC; have hC := hC4; clear hC4; have B0 := Lib.hid (on (by first | exact B.out | exact pw_below_drewN B.out _) b5); clear B; have B := B0; clear B0; clear b5 hR5))
      go_upto_region 18 with (first | (go_at_call 6; ((with_reducible refine (number6 (IsRow.at_ HR0.out (by first | exact B.out | exact pw_below_drewN B.out _))).mono ?_); rintro e w6 ⟨z, hz0, rfl, b6⟩); have hz := Lib.hid hz0; have hC4 := Lib.hid (Kd.C_below (by first | exact hC.out | exact Kd.C_drewN hC.out _) b6); clear hC; have hC := hC4; clear hC4; have hD4 := Lib.hid (Kd.C_below (by first | exact hD.out | exact Kd.C_drewN hD.out _) b6); clear hD; have hD := hD4; clear hD4; have B0 := Lib.hid (on (by first | exact B.out | exact pw_below_drewN B.out _) b6); clear B; have B := B0; clear B0; clear hz0 b6) | (go_at_call 8; ((with_reducible refine (bits8 z hz.out _).mono ?_); rintro e w' ⟨rfl, n8, rfl⟩)) | (go_at_call 7; ((with_reducible refine (from7 z hz.out _).mono ?_); rintro e w' ⟨rfl, rfl⟩)))
      go_upto_region 20 with (first | (go_at_call 32; ((with_reducible refine (complex32 (IsRow.at_ HR0.out (by first | exact B.out | exact pw_below_drewN B.out _))).mono ?_); rintro e w7 ⟨p, q, hp0, hq0, rfl, b7⟩); have hp := Lib.hid hp0; have hq := Lib.hid hq0; have hIp : Is .f32 p (val .f32 p) := Is.of_lt hp0; have hIq : Is .f32 q (val .f32 q) := Is.of_lt hq0; have hC4 := Lib.hid (Kd.C_below (by first | exact hC.out | exact Kd.C_drewN hC.out _) b7); clear hC; have hC := hC4; clear hC4; have hD4 := Lib.hid (Kd.C_below (by first | exact hD.out | exact Kd.C_drewN hD.out _) b7); clear hD; have hD := hD4; clear hD4; have B0 := Lib.hid (on (by first | exact B.out | exact pw_below_drewN B.out _) b7); clear B; have B := B0; clear B0; clear hp0 hq0 b7) | (refine wpList_wi _ _ _ rfl rfl _ rfl (by kernel_rfl) (by kernel_rfl) hIp ?_; intro wp_ np_ hwp) | (refine wpList_wi _ _ _ rfl rfl _ rfl (by kernel_rfl) (by kernel_rfl) hIq ?_; intro wq_ nq_ hwq))
      have HN1 := Lib.hid (show Op.negFloat .f32 (Op.negFloat .f32 q) < 4294967296 by rw [neg_neg]; exact hq.out)
      have HN2 := Lib.hid (show val .f32 (Op.negFloat .f32 (Op.negFloat .f32 q)) = val .f32 q by rw [neg_neg])
      have FI := Lib.hid (finite36 p q)
      have FP := Lib.hid (fin37 p)
      have FQ := Lib.hid (fin37 q)
      generalize decide (single.rungOf p < single.infRung) = cp_ at FI FP
      generalize decide (single.rungOf q < single.infRung) = cq_ at FI FQ
      cases cp_
      all_goals
        go_wp2_with (first | (go_at_call 33; ((with_reducible refine (same33 A5 A cp5 cp ds ys _ hlen.out (by first | exact hD.out | exact Kd.C_drewN hD.out _) (by first | exact hC.out | exact Kd.C_drewN hC.out _) hok.out hback.out).mono ?_); rintro e w' ⟨rfl, k1, rfl⟩)) | (go_at_call 15; ((with_reducible refine (same_back z hz.out _).mono ?_); rintro e w' ⟨rfl, rfl⟩)) | (go_at_call 35; ((with_reducible refine (narrow35 p q wp_ wq_ hp.out hq.out hwp hwq _).mono ?_); rintro e w' ⟨p5, q5, k2, rfl, hp5, hq5, rfl⟩); have B1 := Lib.hid (show p5 < 4294967296 from hp5.2); have B2 := Lib.hid (show q5 < 4294967296 from hq5.2); have B3 := Lib.hid (show val .f32 p5 = val .f32 p from hp5.1); have B4 := Lib.hid (show val .f32 q5 = val .f32 q from hq5.1); clear hp5 hq5) | (go_at_call 34; ((with_reducible refine (same34 p5 q5 p q B1.out B2.out hp.out hq.out B3.out B4.out _).mono ?_); rintro e w' ⟨rfl, k3, rfl⟩)) | (go_at_call 24; ((with_reducible refine (conj24 _ _ _).mono ?_); rintro e w' ⟨rfl, rfl⟩)) | (go_at_call 34; ((with_reducible refine (same34 p _ p q hp.out HN1.out hp.out hq.out rfl HN2.out _).mono ?_); rintro e w' ⟨rfl, k4, rfl⟩)) | (go_at_call 36; ((with_reducible refine (FI.out _).mono ?_); rintro e w' ⟨rfl, k5, rfl⟩)) | (go_at_call 37; ((with_reducible refine (FP.out _).mono ?_); rintro e w' ⟨rfl, k6, rfl⟩)) | (go_at_call 37; ((with_reducible refine (FQ.out _).mono ?_); rintro e w' ⟨rfl, k7, rfl⟩)))
        go_ret
        exact ⟨by first | rfl | simp, (by first | exact B.out | exact pw_below_drewN B.out _)⟩

    · have r1 := cmp_eq hk0 _ (ne0 k hbk.out.1 hbk.out.2)
      have r2 := cmp_ne hl0 _ (ne0 l hbl.out.1 hbl.out.2)
      have h0 : Hid (¬ (k = 0 ∧ l = 0)) := Lib.hid (fun h => hl0 h.2)
      clear hk0 hl0
      go_upto_region 13 with (first | (go_at_call 27; ((with_reducible refine (cquot hu.out hv.out Sk.out Sl.out ni.out nj.out nk.out nl.out h0.out _).mono ?_); rintro e w' ⟨x5, y5, m7, rfl, hx5, hy5, rfl⟩); have o8 := S32.eq hx5 Si.out; have o9 := S32.eq hy5 Sj.out; clear hx5 hy5) | (go_at_call 28; ((with_reducible refine (cscale Si.out Sj.out ni.out nj.out _).mono ?_); rintro e w' ⟨x6, y6, m8, rfl, hx6, hy6, rfl⟩); have o10 := S32.eq hx6 hax.out; have o11 := S32.eq hy6 hay.out; clear hx6 hy6))
      clear o1 o2 hadd
      go_upto_region 14 with (first | (go_at_call 11; ((with_reducible refine (b10at_0_9 a0 len0 cap0 z0 _ (IsRow.at_ HR0.out (by first | exact B.out | exact pw_below_drewN B.out _))).mono ?_); rintro e w' ⟨m, hm0, rfl, n3, rfl⟩); have hm := Lib.hid hm0; clear hm0) | (go_at_call 29; ((with_reducible refine (any29 m (by have := hm.out; omega) (IsRow.at_ HR1.out (by first | exact B.out | exact pw_below_drewN B.out _))).mono ?_); rintro e w3 ⟨vv, ys, rfl, hR0, hlen0, hok0, b3⟩); obtain ⟨A, cp, rfl⟩ := Kd.R_slice hR0; have hC := Lib.hid (Kd.R_reads' hR0).2.2; have hcp := Lib.hid (Kd.R_reads' hR0).2.1; have hlen := Lib.hid (show ys.length ≤ 40 by have := hm.out; omega); have hok := Lib.hid hok0; have B0 := Lib.hid (on (by first | exact B.out | exact pw_below_drewN B.out _) b3); clear B; have B := B0; clear B0; clear hR0 hlen0 hok0 b3))
      obtain ⟨t, ds, ht1, ht2, hb0⟩ := read_back ys hok.out hlen.out
      have T1 := Lib.hid ht1
      have T2 := Lib.hid ht2
      have hback := Lib.hid hb0
      clear ht1 ht2 hb0
      go_upto_region 16 with (first | (go_at_call 30; ((with_reducible refine (QFnExactReadComplex.impl_ComplexText.calls 400 A cp ys t true _ (HT.out.below (by first | exact B.out | exact pw_below_drewN B.out _)) (by first | exact hC.out | exact Kd.C_drewN hC.out _) hcp.out T1.out).mono ?_); rintro e w4 ⟨rfl, b4⟩); have hC4 := Lib.hid (Kd.C_below (by first | exact hC.out | exact Kd.C_drewN hC.out _) b4); clear hC; have hC := hC4; clear hC4; have B0 := Lib.hid (on (by first | exact B.out | exact pw_below_drewN B.out _) b4); clear B; have B := B0; clear B0; clear b4) | (go_at_call 31; ((with_reducible refine (QFnExactReadComplex.impl_ReadComplex.calls 600 t ds true _ (HT.out.below (by first | exact B.out | exact pw_below_drewN B.out _)) T2.out).mono ?_); rintro e w5 ⟨v5, rfl, hR5, b5⟩); obtain ⟨A5, cp5, rfl⟩ := Kd.R_slice hR5; have hD := Lib.hid (Kd.R_reads' hR5).2.2; rw [hback.out.len]; have hC4 := Lib.hid (Kd.C_below (by first | exact hC.out | exact Kd.C_drewN hC.out _) b5); clear hC; have hC := hC4; clear hC4; have B0 := Lib.hid (on (by first | exact B.out | exact pw_below_drewN B.out _) b5); clear B; have B := B0; clear B0; clear b5 hR5))
      go_upto_region 18 with (first | (go_at_call 6; ((with_reducible refine (number6 (IsRow.at_ HR0.out (by first | exact B.out | exact pw_below_drewN B.out _))).mono ?_); rintro e w6 ⟨z, hz0, rfl, b6⟩); have hz := Lib.hid hz0; have hC4 := Lib.hid (Kd.C_below (by first | exact hC.out | exact Kd.C_drewN hC.out _) b6); clear hC; have hC := hC4; clear hC4; have hD4 := Lib.hid (Kd.C_below (by first | exact hD.out | exact Kd.C_drewN hD.out _) b6); clear hD; have hD := hD4; clear hD4; have B0 := Lib.hid (on (by first | exact B.out | exact pw_below_drewN B.out _) b6); clear B; have B := B0; clear B0; clear hz0 b6) | (go_at_call 8; ((with_reducible refine (bits8 z hz.out _).mono ?_); rintro e w' ⟨rfl, n8, rfl⟩)) | (go_at_call 7; ((with_reducible refine (from7 z hz.out _).mono ?_); rintro e w' ⟨rfl, rfl⟩)))
      go_upto_region 20 with (first | (go_at_call 32; ((with_reducible refine (complex32 (IsRow.at_ HR0.out (by first | exact B.out | exact pw_below_drewN B.out _))).mono ?_); rintro e w7 ⟨p, q, hp0, hq0, rfl, b7⟩); have hp := Lib.hid hp0; have hq := Lib.hid hq0; have hIp : Is .f32 p (val .f32 p) := Is.of_lt hp0; have hIq : Is .f32 q (val .f32 q) := Is.of_lt hq0; have hC4 := Lib.hid (Kd.C_below (by first | exact hC.out | exact Kd.C_drewN hC.out _) b7); clear hC; have hC := hC4; clear hC4; have hD4 := Lib.hid (Kd.C_below (by first | exact hD.out | exact Kd.C_drewN hD.out _) b7); clear hD; have hD := hD4; clear hD4; have B0 := Lib.hid (on (by first | exact B.out | exact pw_below_drewN B.out _) b7); clear B; have B := B0; clear B0; clear hp0 hq0 b7) | (refine wpList_wi _ _ _ rfl rfl _ rfl (by kernel_rfl) (by kernel_rfl) hIp ?_; intro wp_ np_ hwp) | (refine wpList_wi _ _ _ rfl rfl _ rfl (by kernel_rfl) (by kernel_rfl) hIq ?_; intro wq_ nq_ hwq))
      have HN1 := Lib.hid (show Op.negFloat .f32 (Op.negFloat .f32 q) < 4294967296 by rw [neg_neg]; exact hq.out)
      have HN2 := Lib.hid (show val .f32 (Op.negFloat .f32 (Op.negFloat .f32 q)) = val .f32 q by rw [neg_neg])
      have FI := Lib.hid (finite36 p q)
      have FP := Lib.hid (fin37 p)
      have FQ := Lib.hid (fin37 q)
      generalize decide (single.rungOf p < single.infRung) = cp_ at FI FP
      generalize decide (single.rungOf q < single.infRung) = cq_ at FI FQ
      cases cp_
      all_goals
        go_wp2_with (first | (go_at_call 33; ((with_reducible refine (same33 A5 A cp5 cp ds ys _ hlen.out (by first | exact hD.out | exact Kd.C_drewN hD.out _) (by first | exact hC.out | exact Kd.C_drewN hC.out _) hok.out hback.out).mono ?_); rintro e w' ⟨rfl, k1, rfl⟩)) | (go_at_call 15; ((with_reducible refine (same_back z hz.out _).mono ?_); rintro e w' ⟨rfl, rfl⟩)) | (go_at_call 35; ((with_reducible refine (narrow35 p q wp_ wq_ hp.out hq.out hwp hwq _).mono ?_); rintro e w' ⟨p5, q5, k2, rfl, hp5, hq5, rfl⟩); have B1 := Lib.hid (show p5 < 4294967296 from hp5.2); have B2 := Lib.hid (show q5 < 4294967296 from hq5.2); have B3 := Lib.hid (show val .f32 p5 = val .f32 p from hp5.1); have B4 := Lib.hid (show val .f32 q5 = val .f32 q from hq5.1); clear hp5 hq5) | (go_at_call 34; ((with_reducible refine (same34 p5 q5 p q B1.out B2.out hp.out hq.out B3.out B4.out _).mono ?_); rintro e w' ⟨rfl, k3, rfl⟩)) | (go_at_call 24; ((with_reducible refine (conj24 _ _ _).mono ?_); rintro e w' ⟨rfl, rfl⟩)) | (go_at_call 34; ((with_reducible refine (same34 p _ p q hp.out HN1.out hp.out hq.out rfl HN2.out _).mono ?_); rintro e w' ⟨rfl, k4, rfl⟩)) | (go_at_call 36; ((with_reducible refine (FI.out _).mono ?_); rintro e w' ⟨rfl, k5, rfl⟩)) | (go_at_call 37; ((with_reducible refine (FP.out _).mono ?_); rintro e w' ⟨rfl, k6, rfl⟩)) | (go_at_call 37; ((with_reducible refine (FQ.out _).mono ?_); rintro e w' ⟨rfl, k7, rfl⟩)))
        go_ret
        exact ⟨by first | rfl | simp, (by first | exact B.out | exact pw_below_drewN B.out _)⟩

  · have r1 := cmp_ne hk0 _ (ne0 k hbk.out.1 hbk.out.2)
    have h0 : Hid (¬ (k = 0 ∧ l = 0)) := Lib.hid (fun h => hk0 h.1)
    clear hk0
    go_upto_region 13 with (first | (go_at_call 27; ((with_reducible refine (cquot hu.out hv.out Sk.out Sl.out ni.out nj.out nk.out nl.out h0.out _).mono ?_); rintro e w' ⟨x5, y5, m7, rfl, hx5, hy5, rfl⟩); have o8 := S32.eq hx5 Si.out; have o9 := S32.eq hy5 Sj.out; clear hx5 hy5) | (go_at_call 28; ((with_reducible refine (cscale Si.out Sj.out ni.out nj.out _).mono ?_); rintro e w' ⟨x6, y6, m8, rfl, hx6, hy6, rfl⟩); have o10 := S32.eq hx6 hax.out; have o11 := S32.eq hy6 hay.out; clear hx6 hy6))
    clear o1 o2 hadd
    go_upto_region 14 with (first | (go_at_call 11; ((with_reducible refine (b10at_0_9 a0 len0 cap0 z0 _ (IsRow.at_ HR0.out (by first | exact B.out | exact pw_below_drewN B.out _))).mono ?_); rintro e w' ⟨m, hm0, rfl, n3, rfl⟩); have hm := Lib.hid hm0; clear hm0) | (go_at_call 29; ((with_reducible refine (any29 m (by have := hm.out; omega) (IsRow.at_ HR1.out (by first | exact B.out | exact pw_below_drewN B.out _))).mono ?_); rintro e w3 ⟨vv, ys, rfl, hR0, hlen0, hok0, b3⟩); obtain ⟨A, cp, rfl⟩ := Kd.R_slice hR0; have hC := Lib.hid (Kd.R_reads' hR0).2.2; have hcp := Lib.hid (Kd.R_reads' hR0).2.1; have hlen := Lib.hid (show ys.length ≤ 40 by have := hm.out; omega); have hok := Lib.hid hok0; have B0 := Lib.hid (on (by first | exact B.out | exact pw_below_drewN B.out _) b3); clear B; have B := B0; clear B0; clear hR0 hlen0 hok0 b3))
    obtain ⟨t, ds, ht1, ht2, hb0⟩ := read_back ys hok.out hlen.out
    have T1 := Lib.hid ht1
    have T2 := Lib.hid ht2
    have hback := Lib.hid hb0
    clear ht1 ht2 hb0
    go_upto_region 16 with (first | (go_at_call 30; ((with_reducible refine (QFnExactReadComplex.impl_ComplexText.calls 400 A cp ys t true _ (HT.out.below (by first | exact B.out | exact pw_below_drewN B.out _)) (by first | exact hC.out | exact Kd.C_drewN hC.out _) hcp.out T1.out).mono ?_); rintro e w4 ⟨rfl, b4⟩); have hC4 := Lib.hid (Kd.C_below (by first | exact hC.out | exact Kd.C_drewN hC.out _) b4); clear hC; have hC := hC4; clear hC4; have B0 := Lib.hid (on (by first | exact B.out | exact pw_below_drewN B.out _) b4); clear B; have B := B0; clear B0; clear b4) | (go_at_call 31; ((with_reducible refine (QFnExactReadComplex.impl_ReadComplex.calls 600 t ds true _ (HT.out.below (by first | exact B.out | exact pw_below_drewN B.out _)) T2.out).mono ?_); rintro e w5 ⟨v5, rfl, hR5, b5⟩); obtain ⟨A5, cp5, rfl⟩ := Kd.R_slice hR5; have hD := Lib.hid (Kd.R_reads' hR5).2.2; rw [hback.out.len]; have hC4 := Lib.hid (Kd.C_below (by first | exact hC.out | exact Kd.C_drewN hC.out _) b5); clear hC; have hC := hC4; clear hC4; have B0 := Lib.hid (on (by first | exact B.out | exact pw_below_drewN B.out _) b5); clear B; have B := B0; clear B0; clear b5 hR5))
    go_upto_region 18 with (first | (go_at_call 6; ((with_reducible refine (number6 (IsRow.at_ HR0.out (by first | exact B.out | exact pw_below_drewN B.out _))).mono ?_); rintro e w6 ⟨z, hz0, rfl, b6⟩); have hz := Lib.hid hz0; have hC4 := Lib.hid (Kd.C_below (by first | exact hC.out | exact Kd.C_drewN hC.out _) b6); clear hC; have hC := hC4; clear hC4; have hD4 := Lib.hid (Kd.C_below (by first | exact hD.out | exact Kd.C_drewN hD.out _) b6); clear hD; have hD := hD4; clear hD4; have B0 := Lib.hid (on (by first | exact B.out | exact pw_below_drewN B.out _) b6); clear B; have B := B0; clear B0; clear hz0 b6) | (go_at_call 8; ((with_reducible refine (bits8 z hz.out _).mono ?_); rintro e w' ⟨rfl, n8, rfl⟩)) | (go_at_call 7; ((with_reducible refine (from7 z hz.out _).mono ?_); rintro e w' ⟨rfl, rfl⟩)))
    go_upto_region 20 with (first | (go_at_call 32; ((with_reducible refine (complex32 (IsRow.at_ HR0.out (by first | exact B.out | exact pw_below_drewN B.out _))).mono ?_); rintro e w7 ⟨p, q, hp0, hq0, rfl, b7⟩); have hp := Lib.hid hp0; have hq := Lib.hid hq0; have hIp : Is .f32 p (val .f32 p) := Is.of_lt hp0; have hIq : Is .f32 q (val .f32 q) := Is.of_lt hq0; have hC4 := Lib.hid (Kd.C_below (by first | exact hC.out | exact Kd.C_drewN hC.out _) b7); clear hC; have hC := hC4; clear hC4; have hD4 := Lib.hid (Kd.C_below (by first | exact hD.out | exact Kd.C_drewN hD.out _) b7); clear hD; have hD := hD4; clear hD4; have B0 := Lib.hid (on (by first | exact B.out | exact pw_below_drewN B.out _) b7); clear B; have B := B0; clear B0; clear hp0 hq0 b7) | (refine wpList_wi _ _ _ rfl rfl _ rfl (by kernel_rfl) (by kernel_rfl) hIp ?_; intro wp_ np_ hwp) | (refine wpList_wi _ _ _ rfl rfl _ rfl (by kernel_rfl) (by kernel_rfl) hIq ?_; intro wq_ nq_ hwq))
    have HN1 := Lib.hid (show Op.negFloat .f32 (Op.negFloat .f32 q) < 4294967296 by rw [neg_neg]; exact hq.out)
    have HN2 := Lib.hid (show val .f32 (Op.negFloat .f32 (Op.negFloat .f32 q)) = val .f32 q by rw [neg_neg])
    have FI := Lib.hid (finite36 p q)
    have FP := Lib.hid (fin37 p)
    have FQ := Lib.hid (fin37 q)
    generalize decide (single.rungOf p < single.infRung) = cp_ at FI FP
    generalize decide (single.rungOf q < single.infRung) = cq_ at FI FQ
    cases cp_
    all_goals
      go_wp2_with (first | (go_at_call 33; ((with_reducible refine (same33 A5 A cp5 cp ds ys _ hlen.out (by first | exact hD.out | exact Kd.C_drewN hD.out _) (by first | exact hC.out | exact Kd.C_drewN hC.out _) hok.out hback.out).mono ?_); rintro e w' ⟨rfl, k1, rfl⟩)) | (go_at_call 15; ((with_reducible refine (same_back z hz.out _).mono ?_); rintro e w' ⟨rfl, rfl⟩)) | (go_at_call 35; ((with_reducible refine (narrow35 p q wp_ wq_ hp.out hq.out hwp hwq _).mono ?_); rintro e w' ⟨p5, q5, k2, rfl, hp5, hq5, rfl⟩); have B1 := Lib.hid (show p5 < 4294967296 from hp5.2); have B2 := Lib.hid (show q5 < 4294967296 from hq5.2); have B3 := Lib.hid (show val .f32 p5 = val .f32 p from hp5.1); have B4 := Lib.hid (show val .f32 q5 = val .f32 q from hq5.1); clear hp5 hq5) | (go_at_call 34; ((with_reducible refine (same34 p5 q5 p q B1.out B2.out hp.out hq.out B3.out B4.out _).mono ?_); rintro e w' ⟨rfl, k3, rfl⟩)) | (go_at_call 24; ((with_reducible refine (conj24 _ _ _).mono ?_); rintro e w' ⟨rfl, rfl⟩)) | (go_at_call 34; ((with_reducible refine (same34 p _ p q hp.out HN1.out hp.out hq.out rfl HN2.out _).mono ?_); rintro e w' ⟨rfl, k4, rfl⟩)) | (go_at_call 36; ((with_reducible refine (FI.out _).mono ?_); rintro e w' ⟨rfl, k5, rfl⟩)) | (go_at_call 37; ((with_reducible refine (FP.out _).mono ?_); rintro e w' ⟨rfl, k6, rfl⟩)) | (go_at_call 37; ((with_reducible refine (FQ.out _).mono ?_); rintro e w' ⟨rfl, k7, rfl⟩)))
      go_ret
      exact ⟨by first | rfl | simp, (by first | exact B.out | exact pw_below_drewN B.out _)⟩

set_option maxRecDepth 100000 in
theorem products_yes (a0 : Option Addr) (len0 cap0 : Nat) (z0 : List Int) (a1 : Option Addr) (len1 cap1 : Nat) (z1 : List Int) (w : World) (h0 : IsRow .u8 w a0 len0 cap0 z0) (h1 : IsRow .u8 w a1 len1 cap1 z1)
    (hl : (decide (1048576 < len0) || decide (1048576 < len1)) = true) :
    Calls Tryz.prog 4 #[.slice a0 len0 cap0, .slice a1 len1 cap1] w fun e w' => e = .returned (.bool true) ∧ Below w.heap.size w w' := by
  have c0 := long30 a0 len0 cap0 a1 len1 cap1 (by have := h0.len; omega) (by have := h1.len; omega) w
  rw [hl] at c0
  have C0 := Lib.hid c0
  clear c0 h0 h1 hl
  go_enter Tryz.func4, Tryz.ntmps4
  go_wp2_with (go_at_call 5; (with_reducible refine C0.out.mono ?_); rintro e w' ⟨rfl, rfl⟩)
  go_ret
  exact ⟨rfl, Below.refl _ _⟩
/-- For every input the law answers true, and nothing elder is changed. -/
theorem productsWalk (a0 : Option Addr) (len0 cap0 : Nat) (z0 : List Int) (a1 : Option Addr) (len1 cap1 : Nat) (z1 : List Int) (w : World) (h0 : IsRow .u8 w a0 len0 cap0 z0) (h1 : IsRow .u8 w a1 len1 cap1 z1) (hs : Hs.HS w) :
    Calls Tryz.prog 4 #[.slice a0 len0 cap0, .slice a1 len1 cap1] w fun e w' => e = .returned (.bool true) ∧ Below w.heap.size w w' := by
  cases hl : (decide (1048576 < len0) || decide (1048576 < len1)) with
  | true => exact products_yes a0 len0 cap0 z0 a1 len1 cap1 z1 w h0 h1 hl
  | false => exact products_no a0 len0 cap0 z0 a1 len1 cap1 z1 w h0 h1 hs hl
end Go.Proofs.YtpfjcfhgckpjmaaGreatDoor.Np
