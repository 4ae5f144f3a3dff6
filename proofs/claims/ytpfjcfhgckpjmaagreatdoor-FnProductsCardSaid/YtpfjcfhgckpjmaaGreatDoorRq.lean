/- The plain law of FnExactReadNumbers, over the functions beside: program and reference answer alike. No condition beyond the stated bounds. The text of numbers is read back, each number by its bits. -/
import Derived.Test.YtpfjcfhgckpjmaaGreatDoorQFnExactReadNumbersx5
import Derived.Test.YtpfjcfhgckpjmaaGreatDoorFd
namespace Go.Proofs.YtpfjcfhgckpjmaaGreatDoor.Rp
open Go.RowKit Go.Proofs.YtpfjcfhgckpjmaaGreatDoor.QFnExactReadNumbers Go.Proofs.YtpfjcfhgckpjmaaGreatDoorW.PrintWords Go.Proofs.YtpfjcfhgckpjmaaGreatDoorW.PrintLast
set_option linter.unusedSimpArgs false
set_option linter.unusedVariables false

namespace FnExactReadNumbersParts
theorem rd_get (x : List Int) (i : Int) (h0 : 0 ≤ i) (h : i < (x.length : Int)) : x[i.toNat]? = some (rd x i) := by
  unfold rd
  rw [List.getD_eq_getElem?_getD, List.getElem?_eq_getElem (by omega)]
  rfl

theorem wrap_up {i : Int} {n : Nat} (h0 : 0 ≤ i) (h : i < (n : Int)) (hn : n ≤ 140737488351232) : wrap64 (i + 1) = i + 1 := by
  unfold wrap64; omega


/-- What marking leaves: a, a + 1, .. -/
def Marked (a : Int) (x : List Int) : Prop := ∀ j : Nat, j < x.length → x[j]? = some (Go.Proofs.YtpfjcfhgckpjmaaGreatDoor.Hs.mk (a + j))

theorem okI_small : ∀ n : Nat, n < 300 → Go.Proofs.YtpfjcfhgckpjmaaGreatDoor.Hs.okI (n : Int) = true := by decide +kernel
open Go.Proofs.YtpfjcfhgckpjmaaGreatDoor.Ft Go.Proofs.YtpfjcfhgckpjmaaGreatDoor.Hx Go.Fl Ieee
/-- The bits of a single. -/
abbrev okF (x : Int) : Prop := 0 ≤ x ∧ x < 4294967296
/-- A number's bits: one of the many of no number. -/
def nbits (x : Int) : Nat := (bitsV (val .f32 x.toNat)).toNat
theorem bitsV_range (b : Nat) (h : b < 4294967296) : 0 ≤ bitsV (val .f32 b) ∧ bitsV (val .f32 b) < 4294967296 := by
  by_cases hn : FloatKind.f32.format.nan b = true
  · rw [val_nan hn]; decide
  · rw [val_num (by simpa using hn)]
    show 0 ≤ ((b : Nat) : Int) ∧ ((b : Nat) : Int) < 4294967296
    omega
theorem nbits_lt (x : Int) (h : okF x) : nbits x < 4294967296 := by have := bitsV_range x.toNat (by unfold okF at h; omega); unfold nbits; omega
theorem bits_f (x : Int) (h : okF x) : spec_l01Bits.f x = some (nbits x : Int) := by
  unfold spec_l01Bits.f nbits
  rw [if_pos h, Int.toNat_of_nonneg (bitsV_range x.toNat (by unfold okF at h; omega)).1]
theorem bitsI_f (x : Int) (h : okF x) : impl_BitsOf.f x = some (nbits x : Int) := by
  unfold impl_BitsOf.f nbits
  rw [if_pos h, Int.toNat_of_nonneg (bitsV_range x.toNat (by unfold okF at h; omega)).1]
/-- k hexadecimal digits. -/
def hexK : Nat → Nat → List UInt8
  | 0, _ => []
  | k + 1, n => hexK k (n / 16) ++ [hexd (n % 16)]
theorem hexK_len (k : Nat) : ∀ n, (hexK k n).length = k := by
  induction k with
  | zero => intro n; rfl
  | succ k ih => intro n; unfold hexK; rw [List.length_append, ih]; rfl
theorem hexK_zero (k : Nat) : hexK k 0 = List.replicate k 48 := by
  induction k with
  | zero => rfl
  | succ k ih =>
    unfold hexK
    rw [Nat.zero_div, Nat.zero_mod, ih, List.replicate_succ']
    rfl
theorem hex_pad (k : Nat) : ∀ n, n < 16 ^ (k + 1) → List.replicate (k + 1 - (hexDigits n).length) 48 ++ hexDigits n = hexK (k + 1) n := by
  induction k with
  | zero =>
    intro n h
    have h' : n < 16 := by simpa using h
    rw [hexDigits_small n h']
    unfold hexK hexK
    rw [Nat.mod_eq_of_lt h']
    rfl
  | succ k ih =>
    intro n h
    by_cases hs : n < 16
    · rw [hexDigits_small n hs]
      unfold hexK
      rw [Nat.div_eq_of_lt hs, hexK_zero, Nat.mod_eq_of_lt hs]
      rfl
    · have hq : n / 16 < 16 ^ (k + 1) := by rw [Nat.div_lt_iff_lt_mul (by decide)]; rw [← Nat.pow_succ]; exact h
      have hl := hexDigits_len k (n / 16) hq
      rw [hexDigits_big n (by omega), List.length_append, List.length_singleton]
      rw [show k + 1 + 1 - ((hexDigits (n / 16)).length + 1) = k + 1 - (hexDigits (n / 16)).length by omega, ← List.append_assoc, ih (n / 16) hq]
      conv => rhs; unfold hexK
/-- The text of a number. -/
def T (x : Int) : ByteArray := ⟨(hexK 8 (nbits x)).toArray⟩
theorem T_list (x : Int) : (T x).data.toList = hexK 8 (nbits x) := by simp [T]
theorem T_size (x : Int) : (T x).size = 8 := by
  rw [Lib.size_eq, T_list, hexK_len]
theorem rep_one (c : Nat) : Lib.repeatL [48] c = List.replicate c 48 := by
  induction c with
  | zero => rfl
  | succ c ih => rw [List.replicate_succ, ← ih]; rfl
theorem w8 (q : Nat) (h : q ≤ 8) : wrap64 (8 - (q : Int)) = ((8 - q : Nat) : Int) := by unfold wrap64; omega
theorem le8 (q : Nat) (h : q ≤ 8) : 8 - q + q ≤ 9223372036854775807 := by omega
theorem p16 : (16 : Nat) ^ (7 + 1) = 4294967296 := rfl
theorem fmt_f (n : Nat) (h : n < 4294967296) : strconv_FormatInt_31.f (n : Int) 16 = some ⟨(hexDigits n).toArray⟩ := by
  unfold strconv_FormatInt_31.f
  rw [if_pos ⟨rfl, by omega, by omega⟩, Int.toNat_natCast]
theorem rep_f (c : Nat) (h : c ≤ 8) : strings_Repeat.f ⟨#[48]⟩ (c : Int) = some ⟨(List.replicate c 48).toArray⟩ := by
  unfold strings_Repeat.f
  have h1 : (⟨#[48]⟩ : ByteArray).size = 1 := rfl
  rw [if_pos ⟨h1, by omega, by omega⟩, Int.toNat_natCast, rep_one]
theorem join_hex (n : Nat) (h : n < 4294967296) : (⟨(List.replicate (8 - (hexDigits n).length) 48).toArray⟩ : ByteArray) ++ ⟨(hexDigits n).toArray⟩ = ⟨(hexK 8 n).toArray⟩ := by
  apply Go.WideShapes.bytes_inj
  rw [ByteArray.data_append]
  show ((List.replicate (8 - (hexDigits n).length) 48).toArray ++ (hexDigits n).toArray).toList = (hexK 8 n).toArray.toList
  rw [Array.toList_append, List.toList_toArray, List.toList_toArray, List.toList_toArray]
  exact hex_pad 7 n (by rw [p16]; exact h)
theorem size_list (l : List UInt8) : (⟨l.toArray⟩ : ByteArray).size = l.length := by rw [Lib.size_eq]
theorem len8 (n : Nat) (h : n < 4294967296) : (hexDigits n).length ≤ 8 := hexDigits_len 7 n (by rw [p16]; exact h)
theorem bind_is {α β : Type} {o : Option α} {a : α} (h : o = some a) (f : α → Option β) : o.bind f = f a := by rw [h]; rfl
theorem T_hex (n : Nat) (h : n < 4294967296) : ((strconv_FormatInt_31.f (n : Int) 16).bind fun t148 => ((strings_Repeat.f (⟨#[48]⟩ : ByteArray) (wrap64 (8 - (t148.size : Int)))).bind fun t149 => (if t149.size + t148.size ≤ 9223372036854775807 then (some (t149 ++ t148)) else (none)))) = some (⟨(hexK 8 n).toArray⟩ : ByteArray) := by
  rw [fmt_f _ h]
  simp only [Option.bind_some]
  rw [size_list, w8 _ (len8 n h), rep_f _ (Nat.sub_le _ _)]
  simp only [Option.bind_some]
  rw [size_list, List.length_replicate, join_hex _ h, if_pos (le8 _ (len8 n h))]
theorem T_is (x : Int) : impl_hexOf.f x = (impl_BitsOf.f x).bind fun t147 => ((strconv_FormatInt_31.f t147 16).bind fun t148 => ((strings_Repeat.f (⟨#[48]⟩ : ByteArray) (wrap64 (8 - (t148.size : Int)))).bind fun t149 => (if t149.size + t148.size ≤ 9223372036854775807 then (some (t149 ++ t148)) else (none)))) := rfl
theorem T_impl (x : Int) (h : okF x) : impl_hexOf.f x = some (T x) :=
  (T_is x).trans ((bind_is (bitsI_f x h) _).trans (T_hex (nbits x) (nbits_lt x h)))
theorem and_i64 (a : Nat) (ha : a < 4294967296) : Go.bits .and .i64 (a : Int) 15 = ((a % 16 : Nat) : Int) := by
  have h1 : (BitVec.ofInt 64 (a : Int)).toNat = a := by
    rw [BitVec.ofInt_natCast, BitVec.toNat_ofNat]; exact Nat.mod_eq_of_lt (by omega)
  have h2 : (BitVec.ofInt 64 15).toNat = 15 := by decide
  have hx : a &&& 15 = a % 16 := Nat.and_two_pow_sub_one_eq_mod a 4
  show IntKind.i64.wrap ((BitVec.ofInt 64 (a : Int) &&& BitVec.ofInt 64 15).toNat : Int) = _
  rw [BitVec.toNat_and, h1, h2, hx]
  simp only [IntKind.wrap, IntKind.bits, IntKind.signed]
  have : a % 16 < 16 := Nat.mod_lt _ (by decide)
  generalize a % 16 = q at this
  simp
  omega
theorem nums_map (l : List UInt8) : strOfNums (l.map fun b => (b.toNat : Int)) = ⟨l.toArray⟩ := by
  unfold strOfNums
  congr 2
  rw [List.map_map]
  conv => rhs; rw [← List.map_id l]
  apply List.map_congr_left
  intro b _
  simp
theorem hexK_top (j : Nat) : ∀ n, hexK (j + 1) n = hexd (n / 16 ^ j % 16) :: hexK j n := by
  induction j with
  | zero =>
    intro n
    show [] ++ [hexd (n % 16)] = [hexd (n / 1 % 16)]
    rw [Nat.div_one]; rfl
  | succ j ih =>
    intro n
    have e : hexK (j + 1 + 1) n = hexK (j + 1) (n / 16) ++ [hexd (n % 16)] := rfl
    rw [e, ih (n / 16), Nat.div_div_eq_div_mul, Nat.pow_succ, Nat.mul_comm (16 ^ j) 16]
    rfl
/-- A list of singles' bits. -/
abbrev okL (l : List Int) : Prop := ∀ x ∈ l, okF x
theorem mem_rd (x : List Int) (i : Int) (h0 : 0 ≤ i) (h : i < (x.length : Int)) : rd x i ∈ x := by
  have := rd_get x i h0 h
  exact List.mem_of_getElem? this
theorem drop_rd (x : List Int) (i : Int) (h0 : 0 ≤ i) (h : i < (x.length : Int)) : x.drop i.toNat = rd x i :: x.drop (i + 1).toNat := by
  have hl : i.toNat < x.length := by omega
  rw [List.drop_eq_getElem_cons hl, show (i + 1).toNat = i.toNat + 1 by omega]
  congr 1
  have := rd_get x i h0 h
  rw [List.getElem?_eq_getElem hl] at this
  exact Option.some.inj this
def H (x : Int) : List UInt8 := hexK 8 (nbits x)
theorem app_data (a b : ByteArray) : (a ++ b).data = a.data ++ b.data := ByteArray.data_append
theorem H_len (x : Int) : (H x).length = 8 := hexK_len 8 _
theorem tail_len (l : List Int) : (Lib.joinTail [44] (l.map H)).length ≤ 22 * l.length := by
  induction l with
  | nil => simp [Lib.joinTail]
  | cons a r ih =>
    have h2 := H_len a
    have e : Lib.joinTail [44] ((a :: r).map H) = [44] ++ H a ++ Lib.joinTail [44] (r.map H) := by simp [Lib.joinTail]
    rw [e]
    simp only [List.length_append, List.length_cons, List.length_nil]
    omega
/-- The text of a list. -/
def text (x : List Int) : ByteArray := if x.length = 0 then ⟨#[110, 111, 110, 101]⟩ else ⟨(Lib.join (x.map H) [44]).toArray⟩
theorem joined_f (xs : List Int) (hn : xs.length ≤ 256) : impl_joined.f (xs.map T) = some (text xs) := by
  unfold impl_joined.f text
  rw [List.length_map]
  by_cases h : xs.length = 0
  · rw [if_pos (by omega), if_pos h]
  · rw [if_neg (by omega), if_neg h]
    have em : (xs.map T).map (fun t => t.data.toList) = xs.map H := by
      rw [List.map_map]; apply List.map_congr_left; intro y _; simp [T, H]
    unfold strings_Join.f
    have ea : (⟨#[44]⟩ : ByteArray).data.toList = [44] := rfl
    rw [em, ea, List.length_map]
    have hl : (Lib.join (xs.map H) [44]).length ≤ 140737488355328 := by
      cases xs with
      | nil => simp at h
      | cons a r =>
        rw [List.map_cons, Lib.join_cons]
        have h1 := H_len a
        have h2 := tail_len r
        simp only [List.length_append, List.length_cons] at hn ⊢
        omega
    rw [if_pos ⟨by omega, hl⟩]
    rfl
theorem list_loop (x : List Int) (hn : x.length ≤ 256) (hin : okL x) (d : Nat) : ∀ (k : Nat) (i : Int) (a : List Int), 0 ≤ i → (x.length : Int) - i = d → d < k → a ++ x.drop i.toNat = x →
    impl_NumbersText.l0 k (a.map T) x (x.length : Int) i = some (text x, true) := by
  induction d with
  | zero =>
    intro k i a h0 hd hk ha
    obtain ⟨k, rfl⟩ : ∃ m, k = m + 1 := ⟨k - 1, by omega⟩
    simp only [impl_NumbersText.l0]
    rw [List.drop_eq_nil_of_le (by omega), List.append_nil] at ha
    rw [if_neg (by omega), ha, joined_f x hn]
    rfl
  | succ d ih =>
    intro k i a h0 hd hk ha
    obtain ⟨k, rfl⟩ : ∃ m, k = m + 1 := ⟨k - 1, by omega⟩
    have hr := hin _ (mem_rd x i h0 (by omega))
    have hla : a.length ≤ 256 := by have := congrArg List.length ha; simp at this; omega
    simp only [impl_NumbersText.l0]
    rw [if_pos (by omega), if_pos h0, if_pos (by omega), T_impl _ hr]
    simp only [Option.bind_some]
    rw [if_pos (by rw [List.length_map]; omega), wrap_up (n := x.length) h0 (by omega) (by omega)]
    have := ih k (i + 1) (a ++ [rd x i]) (by omega) (by omega) (by omega) (by rw [List.append_assoc, List.singleton_append, ← drop_rd x i h0 (by omega)]; exact ha)
    rw [List.map_append] at this
    exact this
/-- What both answer. -/
def answer (x : List Int) : ByteArray × Bool := if x.length ≤ 256 then (text x, true) else (⟨#[]⟩, false)
theorem impl_NT (x : List Int) (hin : okL x) (k : Nat) (hk : 400 ≤ k) : impl_NumbersText.f k x = some (answer x) := by
  unfold impl_NumbersText.f answer
  by_cases h : x.length ≤ 256
  · rw [if_neg (by omega), if_pos h]
    exact list_loop x h hin x.length k 0 [] (by omega) (by omega) (by omega) (by simp)
  · rw [if_pos (by omega), if_neg h]

theorem bt_get (s : ByteArray) (i : Int) (b : UInt8) (r : List UInt8) (h : s.data.toList.drop i.toNat = b :: r) : bt s i = (b.toNat : Int) ∧ i.toNat < s.size := by
  have hl : i.toNat < s.data.toList.length := by
    rcases Nat.lt_or_ge i.toNat s.data.toList.length with h' | h'
    · exact h'
    · rw [List.drop_eq_nil_of_le h'] at h; cases h
  have hs : i.toNat < s.size := by rw [Lib.size_eq]; exact hl
  refine ⟨?_, hs⟩
  rw [List.drop_eq_getElem_cons hl] at h
  injection h with h1 h2
  unfold bt
  rw [dif_pos hs, ← h1]
  rfl
theorem str_eq {a b : ByteArray} (h : a.toList = b.toList) : a = b := by
  rw [ByteArray.toList_eq, ByteArray.toList_eq] at h
  exact Go.WideShapes.bytes_inj h
/-- A text cut at a byte; p is the piece that is being built. -/
def cutL (c : UInt8) : List UInt8 → List UInt8 → List (List UInt8)
  | p, [] => [p]
  | p, b :: l => if b = c then p :: cutL c [] l else cutL c (p ++ [b]) l
theorem splitK_ne (c : UInt8) (k : Nat) (l : List UInt8) : ∃ x r, Lib.splitK [c] 0 k l = x :: r := by
  cases k with
  | zero => exact ⟨_, _, rfl⟩
  | succ k =>
    unfold Lib.splitK
    split
    · exact ⟨_, _, rfl⟩
    · exact ⟨_, _, rfl⟩
theorem splitK_skip (c b : UInt8) (h : b ≠ c) (k : Nat) (l : List UInt8) (x : List UInt8) (r : List (List UInt8)) (e : Lib.splitK [c] 0 k l = x :: r) : Lib.splitK [c] 0 k (b :: l) = (b :: x) :: r := by
  cases k with
  | zero =>
    have e' : [l] = x :: r := e
    injection e' with e1 e2
    subst e1; subst e2
    rfl
  | succ k =>
    have hp : ([c] : List UInt8).isPrefixOf (b :: l) = false := by simp [List.isPrefixOf, Ne.symm h]
    have hix : Lib.index (b :: l) [c] = if Lib.index l [c] == -1 then -1 else Lib.index l [c] + 1 := by rw [Lib.index, hp]; simp
    by_cases hm : Lib.index l [c] = -1
    · rw [Lib.splitK, if_pos (beq_iff_eq.2 hm)] at e
      rw [Lib.splitK, if_pos (beq_iff_eq.2 (by rw [hix, if_pos (beq_iff_eq.2 hm)]))]
      injection e with e1 e2
      subst e1; subst e2
      rfl
    · have hge := Lib.index_ge l [c]
      obtain ⟨j, hj⟩ : ∃ j : Nat, Lib.index l [c] = j := ⟨(Lib.index l [c]).toNat, by omega⟩
      have hix' : Lib.index (b :: l) [c] = ((j + 1 : Nat) : Int) := by rw [hix, if_neg (fun e => hm (beq_iff_eq.1 e)), hj]; omega
      rw [Lib.splitK, if_neg (fun q => hm (beq_iff_eq.1 q)), hj] at e
      rw [Lib.splitK, if_neg (fun q => by have := beq_iff_eq.1 q; rw [hix'] at this; omega), hix']
      simp only [Int.toNat_natCast, Nat.add_zero, List.length_singleton, List.take_succ_cons] at e ⊢
      injection e with e1 e2
      rw [e1, show j + 1 + 1 = (j + 1) + 1 from rfl, List.drop_succ_cons, e2]
theorem cutL_split (c : UInt8) (l : List UInt8) : ∀ p : List UInt8, ∀ x r, Lib.splitK [c] 0 (Lib.count l [c]) l = x :: r → cutL c p l = (p ++ x) :: r := by
  induction l with
  | nil =>
    intro p x r e
    have e0 : Lib.count [] [c] = 0 := by rw [Lib.count_one]; rfl
    rw [e0] at e
    have e' : [([] : List UInt8)] = x :: r := e
    injection e' with e1 e2
    subst e1; subst e2
    simp [cutL]
  | cons b l ih =>
    intro p x r e
    by_cases h : b = c
    · subst h
      rw [Lib.count_cons_eq, Nat.add_comm, Lib.splitK] at e
      have hix : Lib.index (b :: l) [b] = 0 := by rw [Lib.index]; simp [List.isPrefixOf]
      rw [if_neg (by rw [hix]; decide), hix] at e
      simp only [Int.toNat_zero, Nat.add_zero, List.length_singleton, List.take_zero, Nat.zero_add, List.drop_succ_cons, List.drop_zero] at e
      injection e with e1 e2
      subst e1
      obtain ⟨y, t, ey⟩ := splitK_ne b (Lib.count l [b]) l
      have := ih [] y t ey
      unfold cutL
      rw [if_pos rfl, this, List.append_nil, List.nil_append, ← ey, e2]
    · rw [Lib.count_cons_ne b c l h] at e
      obtain ⟨y, t, ey⟩ := splitK_ne c (Lib.count l [c]) l
      rw [splitK_skip c b h _ l y t ey] at e
      injection e with e1 e2
      subst e1; subst e2
      unfold cutL
      rw [if_neg h, ih (p ++ [b]) y t ey, List.append_assoc]
      rfl
theorem cutL_len (c : UInt8) (l : List UInt8) : ∀ p, (cutL c p l).length ≤ l.length + 1 := by
  induction l with
  | nil => intro p; simp [cutL]
  | cons b l ih =>
    intro p
    unfold cutL
    split
    · have := ih []; simp only [List.length_cons]; omega
    · have := ih (p ++ [b]); simp only [List.length_cons]; omega
theorem cutL_piece (c : UInt8) (l : List UInt8) : ∀ p, ∀ x ∈ cutL c p l, x.length ≤ p.length + l.length := by
  induction l with
  | nil => intro p x hx; simp [cutL] at hx; subst hx; omega
  | cons b l ih =>
    intro p x hx
    unfold cutL at hx
    split at hx
    · rcases List.mem_cons.1 hx with rfl | hx
      · omega
      · have := ih [] x hx; simp only [List.length_cons, List.length_nil] at *; omega
    · have := ih (p ++ [b]) x hx; simp only [List.length_cons, List.length_append, List.length_nil] at *; omega
/-- The pieces of a text. -/
def pcs (s : ByteArray) : List ByteArray := (cutL 44 [] s.data.toList).map fun l => ⟨l.toArray⟩
theorem pcs_len (s : ByteArray) : (pcs s).length ≤ s.size + 1 := by
  unfold pcs
  rw [List.length_map, Lib.size_eq]
  exact cutL_len _ _ _
theorem pcs_size (s : ByteArray) : ∀ x ∈ pcs s, x.size ≤ s.size := by
  intro x hx
  obtain ⟨l, hl, rfl⟩ := List.mem_map.1 hx
  have := cutL_piece 44 s.data.toList [] l hl
  rw [Lib.size_eq, Lib.size_eq]
  simpa using this
theorem back (l : List ByteArray) : (l.map (·.data.toList)).map (fun x => (⟨x.toArray⟩ : ByteArray)) = l := by
  rw [List.map_map]
  conv => rhs; rw [← List.map_id l]
  apply List.map_congr_left
  intro x _
  simp
theorem pcs_split (s : ByteArray) : Lib.splitB ⟨#[44]⟩ 0 (Lib.countB s ⟨#[44]⟩) s = pcs s := by
  have e := Lib.splitB_data ⟨#[44]⟩ 0 (Lib.countB s ⟨#[44]⟩) s
  obtain ⟨x, r, ex⟩ := splitK_ne 44 (Lib.count s.data.toList [44]) s.data.toList
  have h := cutL_split 44 s.data.toList [] x r ex
  have e2 : Lib.splitK [44] 0 (Lib.count s.data.toList [44]) s.data.toList = cutL 44 [] s.data.toList := by rw [h, ex]; rfl
  have e3 : (Lib.splitB ⟨#[44]⟩ 0 (Lib.countB s ⟨#[44]⟩) s).map (·.data.toList) = cutL 44 [] s.data.toList := e.trans e2
  rw [← back (Lib.splitB ⟨#[44]⟩ 0 (Lib.countB s ⟨#[44]⟩) s), e3]
  rfl
theorem take_more (l : List UInt8) (f i : Nat) (b : UInt8) (r : List UInt8) (hf : f ≤ i) (e : l.drop i = b :: r) : (l.drop f).take (i + 1 - f) = (l.drop f).take (i - f) ++ [b] := by
  have hl : i < l.length := by
    rcases Nat.lt_or_ge i l.length with h' | h'
    · exact h'
    · rw [List.drop_eq_nil_of_le h'] at e; cases e
  rw [List.drop_eq_getElem_cons hl] at e
  injection e with e1 _
  rw [show i + 1 - f = (i - f) + 1 by omega, List.take_succ_eq_append_getElem (by rw [List.length_drop]; omega)]
  congr 2
  rw [List.getElem_drop, ← e1]
  congr 1; omega
theorem ext_mk (s : ByteArray) (f i : Nat) : s.extract f i = ⟨((s.data.toList.drop f).take (i - f)).toArray⟩ := by
  apply str_eq
  rw [Lib.toList_data, Lib.toList_data, Lib.extract_data]
theorem wrap_nat (i n : Nat) (h : i ≤ n) (hn : n ≤ 140737488351232) : wrap64 ((i : Int) + 1) = ((i + 1 : Nat) : Int) := by unfold wrap64; omega
theorem split_f (s : ByteArray) (hs : s.size ≤ 1048576) (k : Nat) : strings_Split.f k s ⟨#[44]⟩ = some (pcs s) := by
  unfold strings_Split.f
  rw [if_pos ⟨by omega, by decide⟩, pcs_split]

open Go.Proofs.YtpfjcfhgckpjmaaGreatDoor.Px
/-- What a byte is worth as the reference reads it. -/
def ld (c : UInt8) : Option Nat := if 48 ≤ c.toNat ∧ c.toNat ≤ 57 then some (c.toNat - 48) else if 97 ≤ c.toNat ∧ c.toNat ≤ 102 then some (c.toNat - 87) else none
def digL : Nat → List UInt8 → Option Nat
  | acc, [] => some acc
  | acc, c :: r => match ld c with
    | some d => digL (acc * 16 + d) r
    | none => none
theorem ld_lt (c : UInt8) (d : Nat) (h : ld c = some d) : d < 16 := by
  unfold ld at h
  split at h
  · injection h with h; omega
  · split at h
    · injection h with h; omega
    · cases h
theorem low32 : ∀ n : Nat, n < 256 → 97 ≤ n → n ≤ 102 → (n ||| 32) = n := by decide +kernel
theorem hv_ld (c : UInt8) (d : Nat) (h : ld c = some d) : hv c = some d := by
  unfold ld at h
  unfold hv
  split at h
  · rename_i q; rw [if_pos q]; exact h
  · rename_i q
    split at h
    · rename_i p
      rw [if_neg q, low32 c.toNat c.toNat_lt p.1 p.2, if_pos p]; exact h
    · cases h
theorem parse_dig (l : List UInt8) : ∀ acc v, digL acc l = some v → parseH acc l = some v := by
  induction l with
  | nil => intro acc v h; exact h
  | cons c r ih =>
    intro acc v h
    unfold digL at h
    unfold parseH
    cases e : ld c with
    | none => rw [e] at h; cases h
    | some d =>
      rw [e] at h
      rw [hv_ld c d e]
      exact ih _ _ h
theorem ld_hexd (d : Nat) (h : d < 16) : ld (hexd d) = some d := by
  match d, h with
  | 0, _ => rfl
  | 1, _ => rfl
  | 2, _ => rfl
  | 3, _ => rfl
  | 4, _ => rfl
  | 5, _ => rfl
  | 6, _ => rfl
  | 7, _ => rfl
  | 8, _ => rfl
  | 9, _ => rfl
  | 10, _ => rfl
  | 11, _ => rfl
  | 12, _ => rfl
  | 13, _ => rfl
  | 14, _ => rfl
  | 15, _ => rfl
  | k + 16, hk => exact absurd hk (by omega)
theorem hexd_ld (c : UInt8) (d : Nat) (h : ld c = some d) : hexd d = c := by
  unfold ld at h
  apply UInt8.toNat_inj.1
  unfold hexd
  split at h
  · injection h with h
    subst h
    rw [if_pos (by omega), UInt8.toNat_ofNat']; omega
  · split at h
    · injection h with h
      subst h
      rw [if_neg (by omega), UInt8.toNat_ofNat']; omega
    · cases h
theorem hexd_no44 (d : Nat) (h : d < 16) : hexd d ≠ 44 := by
  intro e
  have := ld_hexd d h
  rw [e] at this
  cases this
theorem digL_snoc (l : List UInt8) (c : UInt8) : ∀ acc, digL acc (l ++ [c]) = match digL acc l with
    | some v => match ld c with
      | some d => some (v * 16 + d)
      | none => none
    | none => none := by
  induction l with
  | nil =>
    intro acc
    show digL acc [c] = match some acc with | some v => _ | none => none
    unfold digL
    cases ld c with
    | none => rfl
    | some d => rfl
  | cons b r ih =>
    intro acc
    show digL acc (b :: (r ++ [c])) = _
    unfold digL
    cases ld b with
    | none => rfl
    | some d => exact ih _
theorem dig_hexK (j : Nat) : ∀ n, n < 16 ^ j → digL 0 (hexK j n) = some n := by
  induction j with
  | zero => intro n h; have : n = 0 := by simpa using h
            subst this; rfl
  | succ j ih =>
    intro n h
    have hq : n / 16 < 16 ^ j := by rw [Nat.div_lt_iff_lt_mul (by decide)]; rw [← Nat.pow_succ]; exact h
    have e : hexK (j + 1) n = hexK j (n / 16) ++ [hexd (n % 16)] := rfl
    rw [e, digL_snoc, ih _ hq, ld_hexd _ (Nat.mod_lt _ (by decide))]
    show some (n / 16 * 16 + n % 16) = some n
    congr 1; omega
theorem hexK_dig (j : Nat) : ∀ l v, l.length = j → digL 0 l = some v → v < 16 ^ j ∧ l = hexK j v := by
  induction j with
  | zero =>
    intro l v hl h
    have := List.eq_nil_of_length_eq_zero hl
    subst this
    have e : some 0 = some v := h
    injection e with e
    subst e
    exact ⟨by decide, rfl⟩
  | succ j ih =>
    intro l v hl h
    rcases List.eq_nil_or_concat l with e | ⟨l', c, e⟩
    · subst e; simp at hl
    · have e' : l = l' ++ [c] := by simpa using e
      subst e'
      rw [List.length_append, List.length_singleton] at hl
      rw [digL_snoc] at h
      cases e1 : digL 0 l' with
      | none => rw [e1] at h; cases h
      | some q =>
        rw [e1] at h
        cases e2 : ld c with
        | none => rw [e2] at h; cases h
        | some d =>
          rw [e2] at h
          have h' : some (q * 16 + d) = some v := h
          injection h' with h'
          subst h'
          obtain ⟨h1, h2⟩ := ih l' q (by omega) e1
          have hd := ld_lt c d e2
          refine ⟨by rw [Nat.pow_succ]; omega, ?_⟩
          have e3 : hexK (j + 1) (q * 16 + d) = hexK j ((q * 16 + d) / 16) ++ [hexd ((q * 16 + d) % 16)] := rfl
          rw [e3, show (q * 16 + d) / 16 = q by omega, show (q * 16 + d) % 16 = d by omega, hexd_ld c d e2, ← h2]
theorem no44 (k n : Nat) : ∀ b ∈ hexK k n, b ≠ 44 := by
  induction k generalizing n with
  | zero => intro b hb; cases hb
  | succ k ih =>
    intro b hb
    rcases List.mem_append.1 hb with hb | hb
    · exact ih _ b hb
    · rw [List.mem_singleton.1 hb]; exact hexd_no44 _ (Nat.mod_lt _ (by decide))
theorem join_tail (x : List UInt8) (r : List (List UInt8)) : Lib.joinTail [44] (x :: r) = 44 :: (x ++ Lib.joinTail [44] r) := by simp [Lib.joinTail]
theorem cutL_ne (l : List UInt8) : ∀ p, ∃ x r, cutL 44 p l = x :: r := by
  induction l with
  | nil => intro p; exact ⟨_, _, rfl⟩
  | cons b l ih =>
    intro p
    unfold cutL
    split
    · exact ⟨_, _, rfl⟩
    · exact ih _
theorem join_cut (l : List UInt8) : ∀ p, Lib.join (cutL 44 p l) [44] = p ++ l := by
  induction l with
  | nil => intro p; unfold cutL; rw [Lib.join_cons]; simp [Lib.joinTail]
  | cons b l ih =>
    intro p
    unfold cutL
    split
    · rename_i h
      subst h
      obtain ⟨x, r, e⟩ := cutL_ne l []
      have := ih []
      rw [e, Lib.join_cons] at this
      rw [Lib.join_cons, e, join_tail, this]
      rfl
    · rw [ih, List.append_assoc]; rfl
theorem cutL_app (a : List UInt8) : ∀ p t, (∀ b ∈ a, b ≠ 44) → cutL 44 p (a ++ t) = cutL 44 (p ++ a) t := by
  induction a with
  | nil => intro p t _; rw [List.nil_append, List.append_nil]
  | cons b a ih =>
    intro p t h
    show cutL 44 p (b :: (a ++ t)) = _
    conv => lhs; unfold cutL
    rw [if_neg (h b List.mem_cons_self), ih _ _ (fun c hc => h c (List.mem_cons_of_mem _ hc)), List.append_assoc]
    rfl
theorem cut_join (r : List (List UInt8)) : ∀ a, (∀ x ∈ a :: r, ∀ b ∈ x, b ≠ 44) → cutL 44 [] (a ++ Lib.joinTail [44] r) = a :: r := by
  induction r with
  | nil =>
    intro a h
    rw [cutL_app a [] _ (h a List.mem_cons_self)]
    rfl
  | cons x r ih =>
    intro a h
    rw [cutL_app a [] _ (h a List.mem_cons_self), join_tail, List.nil_append]
    conv => lhs; unfold cutL
    rw [if_pos rfl, ih x (fun y hy => h y (List.mem_cons_of_mem _ hy))]
theorem dw1 (v z : Nat) (hv : v < 268435456) (h1 : 48 ≤ z) (h2 : z ≤ 57) : wrap64 (wrap64 (16 * (v : Int)) + ((z : Int) - 48) % 256) = ((v * 16 + (z - 48) : Nat) : Int) := by
  have e1 : ((z : Int) - 48) % 256 = (z : Int) - 48 := by omega
  have e2 : wrap64 (16 * (v : Int)) = 16 * (v : Int) := by unfold wrap64; omega
  have e3 : wrap64 (16 * (v : Int) + ((z : Int) - 48)) = 16 * (v : Int) + ((z : Int) - 48) := by unfold wrap64; omega
  rw [e1, e2, e3]; omega
theorem dw2 (v z : Nat) (hv : v < 268435456) (h1 : 97 ≤ z) (h2 : z ≤ 102) : wrap64 (wrap64 (16 * (v : Int)) + (((z : Int) - 97) % 256 + 10)) = ((v * 16 + (z - 87) : Nat) : Int) := by
  have e1 : ((z : Int) - 97) % 256 = (z : Int) - 97 := by omega
  have e2 : wrap64 (16 * (v : Int)) = 16 * (v : Int) := by unfold wrap64; omega
  have e3 : wrap64 (16 * (v : Int) + ((z : Int) - 97 + 10)) = 16 * (v : Int) + ((z : Int) - 97 + 10) := by unfold wrap64; omega
  rw [e1, e2, e3]; omega
theorem nn1 (z : Nat) (h : z < 256) : ¬ ((z : Int) - 48) % 256 < 0 := by omega
theorem nn2 (z : Nat) (h : z < 256) : ¬ ((z : Int) - 97) % 256 + 10 < 0 := by omega
theorem up8 (j : Nat) (h : j < 8) : wrap64 ((j : Int) + 1) = ((j + 1 : Nat) : Int) := by unfold wrap64; omega
theorem below7 (v j : Nat) (h : v < 16 ^ j) (hj : j < 8) : v < 268435456 := by
  have h7 : (16 : Nat) ^ j ≤ 16 ^ 7 := Nat.pow_le_pow_right (by decide) (by omega)
  exact Nat.lt_of_lt_of_le h h7
theorem pw16 (v d q : Nat) (h : v < q) (hd : d < 16) : v * 16 + d < q * 16 := by omega
theorem lt32 (n : Nat) (h : n < 16 ^ 8) : n < 4294967296 := h
theorem from_f (x : Int) (h : okF x) : spec_l01From.f x = some x := by unfold spec_l01From.f; rw [if_pos h]
theorem okF_nat (n : Nat) (h : n < 4294967296) : okF (n : Int) := by unfold okF; omega
/-- What the reference reads out of pieces. -/
def spL : List ByteArray → List Int → List Int × Bool
  | [], o => (o, true)
  | p :: r, o => if p.size = 8 then (match digL 0 p.data.toList with
      | some n => if nbits (n : Int) = n then spL r (o ++ [(n : Int)]) else ([], false)
      | none => ([], false)) else ([], false)
/-- The number that the program reads out of a piece. -/
def hx (p : ByteArray) : Int := (((parseH 0 p.data.toList).getD 0 % 4294967296 : Nat) : Int)
theorem hx_ok (p : ByteArray) : okF (hx p) := by unfold hx okF; omega
theorem hx_dig (p : ByteArray) (n : Nat) (h : digL 0 p.data.toList = some n) (hn : n < 4294967296) : hx p = (n : Int) := by
  unfold hx
  rw [parse_dig _ _ _ h]
  simp only [Option.getD_some]
  omega
/-- What the program reads out of pieces, ahead of the question whether its text is the same. -/
def imL : List ByteArray → List Int → Option (List Int)
  | [], o => some o
  | p :: r, o => if p.size = 8 then (if o.length = 256 then none else imL r (o ++ [hx p])) else none
/-- What the program answers behind that question. -/
def asked (s : ByteArray) : Option (List Int) → List Int × Bool
  | some o => if text o = s then (o, true) else ([], false)
  | none => ([], false)
theorem okL_app (o : List Int) (h : okL o) (p : ByteArray) : okL (o ++ [hx p]) := by
  intro x hxm
  rcases List.mem_append.1 hxm with h1 | h1
  · exact h x h1
  · rw [List.mem_singleton.1 h1]; exact hx_ok p
theorem impl_list (s : ByteArray) (P : List ByteArray) (hn : P.length ≤ 1048577) (d : Nat) : ∀ (k i : Nat) (o : List Int), i + d = P.length → o.length ≤ 256 → okL o → d + 500 ≤ k →
    impl_ReadNumbers.l0 k s o P (P.length : Int) (i : Int) = some (asked s (imL (P.drop i) o)) := by
  induction d with
  | zero =>
    intro k i o hi ho hok hk
    obtain ⟨k, rfl⟩ : ∃ m, k = m + 1 := ⟨k - 1, by omega⟩
    have e1 : ¬ (i : Int) < (P.length : Int) := by omega
    simp only [impl_ReadNumbers.l0]
    rw [if_neg e1, List.drop_eq_nil_of_le (by omega), impl_NT o hok k (by omega)]
    unfold answer
    rw [if_pos ho]
    simp only [Option.bind_some, if_true]
    show _ = some (if text o = s then (o, true) else ([], false))
    by_cases h : text o = s
    · rw [if_pos (by rw [h]), if_pos h]
    · rw [if_neg (fun q => h (str_eq q)), if_neg h]
  | succ d ih =>
    intro k i o hi ho hok hk
    obtain ⟨k, rfl⟩ : ∃ m, k = m + 1 := ⟨k - 1, by omega⟩
    have hl : i < P.length := by omega
    have e := List.drop_eq_getElem_cons hl
    have hr : rdOf ByteArray.empty P (i : Int) = P[i] := by
      unfold rdOf
      rw [Int.toNat_natCast, List.getD_eq_getElem?_getD, List.getElem?_eq_getElem hl]
      rfl
    generalize P[i] = p at hr e
    have e1 : (i : Int) < (P.length : Int) := by omega
    have e2 : (0 : Int) ≤ (i : Int) := by omega
    simp only [impl_ReadNumbers.l0]
    rw [if_pos e1, if_pos e2, if_pos e1, hr, e]
    unfold imL
    by_cases hs : p.size = 8
    · rw [if_pos (by omega), if_pos hs]
      by_cases h256 : o.length = 256
      · rw [if_pos (by omega), if_pos h256]; rfl
      · rw [if_neg (by omega), if_neg h256]
        have hf : impl_readHex.f p = some (hx p) := by unfold impl_readHex.f; rw [if_pos hs]; rfl
        rw [hf]
        simp only [Option.bind_some]
        rw [if_pos (by omega), wrap_nat i P.length (by omega) (by omega)]
        exact ih k (i + 1) _ (by omega) (by rw [List.length_append, List.length_singleton]; omega) (okL_app o hok p) (by omega)
    · rw [if_neg (by omega), if_neg hs]; rfl

/-- What a list's pieces are. -/
def good (l : List Int) : Prop := ∀ x ∈ l, okF x ∧ (nbits x : Int) = x
theorem spL_good (P : List ByteArray) : ∀ o l, spL P o = (l, true) → ∃ m, l = o ++ m ∧ m.length = P.length ∧ good m ∧ P = m.map T := by
  induction P with
  | nil =>
    intro o l h
    have h' : (o, true) = (l, true) := h
    injection h' with h1 _
    exact ⟨[], by rw [h1, List.append_nil], rfl, (fun x hx => by cases hx), rfl⟩
  | cons p r ih =>
    intro o l h
    unfold spL at h
    by_cases hs : p.size = 8
    · rw [if_pos hs] at h
      cases hd : digL 0 p.data.toList with
      | none => rw [hd] at h; injection h with _ h; cases h
      | some n =>
        rw [hd] at h
        have h' : (if nbits (n : Int) = n then spL r (o ++ [(n : Int)]) else ([], false)) = (l, true) := h
        by_cases hb : nbits (n : Int) = n
        · rw [if_pos hb] at h'
          obtain ⟨m, e1, e2, e3, e4⟩ := ih _ _ h'
          obtain ⟨hlt, hk⟩ := hexK_dig 8 p.data.toList n (by rw [← Lib.size_eq]; exact hs) hd
          have hok := okF_nat n (lt32 n hlt)
          clear hlt
          refine ⟨(n : Int) :: m, by rw [e1, List.append_assoc]; rfl, by rw [List.length_cons, List.length_cons, e2], ?_, ?_⟩
          · intro x hx
            rcases List.mem_cons.1 hx with rfl | hx
            · exact ⟨hok, by rw [hb]⟩
            · exact e3 x hx
          · rw [List.map_cons, ← e4]
            congr 1
            apply Go.WideShapes.bytes_inj
            rw [T_list, hb, ← hk]
        · rw [if_neg hb] at h'; injection h' with _ h'; cases h'
    · rw [if_neg hs] at h; injection h with _ h; cases h
theorem digT (x : Int) (h : okF x) : digL 0 (T x).data.toList = some (nbits x) := by
  rw [T_list]; exact dig_hexK 8 _ (nbits_lt x h)
theorem spL_T (m : List Int) (h : good m) : ∀ o, spL (m.map T) o = (o ++ m, true) := by
  induction m with
  | nil => intro o; rw [List.append_nil]; rfl
  | cons x r ih =>
    intro o
    obtain ⟨h1, h2⟩ := h x List.mem_cons_self
    rw [List.map_cons]
    unfold spL
    rw [if_pos (T_size x), digT x h1]
    show (if nbits (nbits x : Int) = nbits x then spL (r.map T) (o ++ [(nbits x : Int)]) else ([], false)) = _
    rw [h2, if_pos rfl, ih (fun y hy => h y (List.mem_cons_of_mem _ hy)), List.append_assoc]
    rfl
theorem spL_false (P : List ByteArray) : ∀ o, (∀ l, spL P o ≠ (l, true)) → spL P o = ([], false) := by
  induction P with
  | nil => intro o h; exact absurd rfl (h o)
  | cons p r ih =>
    intro o h
    unfold spL at h ⊢
    by_cases hs : p.size = 8
    · rw [if_pos hs] at h ⊢
      cases hd : digL 0 p.data.toList with
      | none => rfl
      | some n =>
        rw [hd] at h
        show (if nbits (n : Int) = n then spL r (o ++ [(n : Int)]) else ([], false)) = _
        by_cases hb : nbits (n : Int) = n
        · rw [if_pos hb]
          refine ih _ (fun l hl => h l ?_)
          show (if nbits (n : Int) = n then spL r (o ++ [(n : Int)]) else ([], false)) = _
          rw [if_pos hb]; exact hl
        · rw [if_neg hb]
    · rw [if_neg hs]
theorem imL_is (P : List ByteArray) : ∀ o l, imL P o = some l → l = o ++ P.map hx ∧ (∀ p ∈ P, p.size = 8) := by
  induction P with
  | nil => intro o l h; injection h with h; exact ⟨by rw [← h]; simp, fun p hp => by cases hp⟩
  | cons p r ih =>
    intro o l h
    unfold imL at h
    by_cases hs : p.size = 8
    · rw [if_pos hs] at h
      by_cases h256 : o.length = 256
      · rw [if_pos h256] at h; cases h
      · rw [if_neg h256] at h
        obtain ⟨e1, e2⟩ := ih _ _ h
        refine ⟨by rw [e1, List.append_assoc]; rfl, fun q hq => ?_⟩
        rcases List.mem_cons.1 hq with rfl | hq
        · exact hs
        · exact e2 q hq
    · rw [if_neg hs] at h; cases h
theorem imL_len (P : List ByteArray) : ∀ o l, o.length ≤ 256 → imL P o = some l → l.length ≤ 256 := by
  induction P with
  | nil => intro o l ho h; injection h with h; rw [← h]; exact ho
  | cons p r ih =>
    intro o l ho h
    unfold imL at h
    by_cases hs : p.size = 8
    · rw [if_pos hs] at h
      by_cases h256 : o.length = 256
      · rw [if_pos h256] at h; cases h
      · rw [if_neg h256] at h
        exact ih _ l (by rw [List.length_append, List.length_singleton]; omega) h
    · rw [if_neg hs] at h; cases h
theorem hx_T (x : Int) (h : okF x) (h2 : (nbits x : Int) = x) : hx (T x) = x := by
  rw [hx_dig (T x) (nbits x) (digT x h) (nbits_lt x h), h2]
theorem imL_T (m : List Int) (h : good m) : ∀ o, o.length + m.length ≤ 256 → imL (m.map T) o = some (o ++ m) := by
  induction m with
  | nil => intro o _; rw [List.append_nil]; rfl
  | cons x r ih =>
    intro o ho
    obtain ⟨h1, h2⟩ := h x List.mem_cons_self
    rw [List.length_cons] at ho
    rw [List.map_cons]
    unfold imL
    rw [if_pos (T_size x), if_neg (by omega), hx_T x h1 h2, ih (fun y hy => h y (List.mem_cons_of_mem _ hy)) _ (by rw [List.length_append, List.length_singleton]; omega), List.append_assoc]
    rfl
theorem pcs_text (m : List Int) (h : m ≠ []) : pcs (text m) = m.map T := by
  cases m with
  | nil => exact absurd rfl h
  | cons a r =>
    unfold text pcs
    rw [if_neg (by simp)]
    have e : (⟨(Lib.join ((a :: r).map H) [44]).toArray⟩ : ByteArray).data.toList = Lib.join ((a :: r).map H) [44] := rfl
    rw [e, List.map_cons, Lib.join_cons, cut_join]
    · rw [List.map_cons, List.map_map, List.map_cons]; rfl
    · intro x hx b hb
      have : ∃ y, x = H y := by
        rcases List.mem_cons.1 hx with rfl | hx
        · exact ⟨a, rfl⟩
        · obtain ⟨y, _, rfl⟩ := List.mem_map.1 hx; exact ⟨y, rfl⟩
      obtain ⟨y, rfl⟩ := this
      exact no44 8 _ b hb
theorem text_pcs (s : ByteArray) (m : List Int) (h : m ≠ []) (e : pcs s = m.map T) : text m = s := by
  apply Go.WideShapes.bytes_inj
  have hm : m.length ≠ 0 := fun q => h (List.eq_nil_of_length_eq_zero q)
  unfold text
  rw [if_neg hm]
  show Lib.join (m.map H) [44] = s.data.toList
  have e2 : cutL 44 [] s.data.toList = m.map H := by
    have := congrArg (List.map (fun b : ByteArray => b.data.toList)) e
    unfold pcs at this
    rw [List.map_map, List.map_map] at this
    have e3 : (cutL 44 [] s.data.toList).map ((fun b : ByteArray => b.data.toList) ∘ fun l => (⟨l.toArray⟩ : ByteArray)) = cutL 44 [] s.data.toList := by
      conv => rhs; rw [← List.map_id (cutL 44 [] s.data.toList)]
      apply List.map_congr_left
      intro x _
      simp
    have e4 : m.map ((fun b : ByteArray => b.data.toList) ∘ T) = m.map H := by
      apply List.map_congr_left
      intro x _
      show (T x).data.toList = H x
      rw [T_list]; rfl
    rw [e3, e4] at this
    exact this
  rw [← e2, join_cut]
  rfl
/-- The reference's answer is the program's. -/
theorem same_list (s : ByteArray) (hn : (pcs s).length ≤ 256) (hne : pcs s ≠ []) : spL (pcs s) [] = asked s (imL (pcs s) []) := by
  by_cases ex : ∃ l, spL (pcs s) [] = (l, true)
  · obtain ⟨l, h⟩ := ex
    obtain ⟨m, e1, e2, e3, e4⟩ := spL_good _ _ _ h
    rw [List.nil_append] at e1
    subst e1
    have hl : l ≠ [] := fun q => by subst q; rw [e4] at hne; exact hne rfl
    have him : imL (pcs s) [] = some l := by
      rw [e4, imL_T l e3 [] (by rw [e2]; simpa using hn), List.nil_append]
    rw [h, him]
    show (l, true) = if text l = s then (l, true) else ([], false)
    rw [if_pos (text_pcs s l hl e4)]
  · have hf := spL_false (pcs s) [] (fun l h => ex ⟨l, h⟩)
    rw [hf]
    cases him : imL (pcs s) [] with
    | none => rfl
    | some o =>
      show _ = if text o = s then (o, true) else ([], false)
      by_cases ht : text o = s
      · exfalso
        apply ex
        obtain ⟨e1, e2⟩ := imL_is _ _ _ him
        rw [List.nil_append] at e1
        have hok : okL o := by
          intro x hxm
          rw [e1] at hxm
          obtain ⟨p, _, rfl⟩ := List.mem_map.1 hxm
          exact hx_ok p
        have ho : o ≠ [] := by
          intro q
          rw [q] at e1
          exact hne (List.map_eq_nil_iff.1 e1.symm)
        have hp := pcs_text o ho
        rw [ht] at hp
        have hgood : good o := by
          intro x hxm
          refine ⟨hok x hxm, ?_⟩
          have e3 : o = o.map (fun x => hx (T x)) := by
            conv => lhs; rw [e1, hp, List.map_map]
            rfl
          obtain ⟨i, hi, rfl⟩ := List.mem_iff_getElem.1 hxm
          have e4 : o[i] = hx (T o[i]) := by
            have := congrArg (fun l => l[i]?) e3
            simp only [List.getElem?_map, List.getElem?_eq_getElem hi, Option.map_some] at this
            exact Option.some.inj this
          rw [hx_dig (T o[i]) (nbits o[i]) (digT _ (hok _ hxm)) (nbits_lt _ (hok _ hxm))] at e4
          exact e4.symm
        exact ⟨[] ++ o, by rw [hp]; exact spL_T o hgood []⟩
      · rw [if_neg ht]

theorem spL_len (P : List ByteArray) : ∀ o, (spL P o).1.length ≤ o.length + P.length := by
  induction P with
  | nil => intro o; exact Nat.le_refl _
  | cons p r ih =>
    intro o
    unfold spL
    by_cases hs : p.size = 8
    · rw [if_pos hs]
      cases hd : digL 0 p.data.toList with
      | none => exact Nat.zero_le _
      | some n =>
        show (if nbits (n : Int) = n then spL r (o ++ [(n : Int)]) else ([], false)).1.length ≤ _
        by_cases hb : nbits (n : Int) = n
        · rw [if_pos hb]
          have := ih (o ++ [(n : Int)])
          rw [List.length_append, List.length_singleton] at this
          rw [List.length_cons]; omega
        · rw [if_neg hb]; exact Nat.zero_le _
    · rw [if_neg hs]; exact Nat.zero_le _
theorem imL_none (P : List ByteArray) : ∀ o, 256 < o.length + P.length → o.length ≤ 256 → imL P o = none := by
  induction P with
  | nil => intro o h1 h2; simp only [List.length_nil] at h1; omega
  | cons p r ih =>
    intro o h1 h2
    unfold imL
    by_cases hs : p.size = 8
    · rw [if_pos hs]
      by_cases h256 : o.length = 256
      · rw [if_pos h256]
      · rw [if_neg h256]
        rw [List.length_cons] at h1
        exact ih _ (by rw [List.length_append, List.length_singleton]; omega) (by rw [List.length_append, List.length_singleton]; omega)
    · rw [if_neg hs]
theorem pcs_ne (s : ByteArray) : pcs s ≠ [] := by
  obtain ⟨x, r, e⟩ := cutL_ne s.data.toList []
  unfold pcs
  rw [e]
  simp
theorem none_text (s : ByteArray) (h : s.toList = [110, 111, 110, 101]) : text [] = s := by
  apply Go.WideShapes.bytes_inj
  rw [← Lib.toList_data s, h]
  rfl
theorem leO_some {α : Type} {a b : α} (h : LeO (some a) (some b)) : a = b := (Option.some.inj (h a rfl)).symm

end FnExactReadNumbersParts


end Go.Proofs.YtpfjcfhgckpjmaaGreatDoor.Rp
namespace Go.Proofs.YtpfjcfhgckpjmaaGreatDoor.Rp
open Go.RowKit Go.Proofs.YtpfjcfhgckpjmaaGreatDoor.QFnExactReadNumbers Go.Proofs.YtpfjcfhgckpjmaaGreatDoorW.PrintWords Go.Proofs.YtpfjcfhgckpjmaaGreatDoorW.PrintLast
set_option linter.unusedSimpArgs false
set_option linter.unusedVariables false
namespace FnExactReadNumbersParts
/-- A number's bits, as a number. -/
def nb (x : Int) : Int := (nbits x : Int)
theorem nb_is (x : Int) (h : okF x) : nb x = Go.Fl.bitsV (Go.Fl.val .f32 x.toNat) := by
  unfold okF at h
  have := Lw.bitsV_range x.toNat (by omega)
  unfold nb nbits
  omega
theorem nb_nb (x : Int) (h : okF x) : nbits (nb x) = nbits x := by
  have e := nb_is x h
  have := Lw.val_back x.toNat
  rw [← e] at this
  show (Go.Fl.bitsV (Go.Fl.val .f32 (nb x).toNat)).toNat = nbits x
  rw [this]
  exact Int.toNat_natCast _
theorem good_nb (l : List Int) (h : ∀ x ∈ l, okF x) : good (l.map nb) := by
  intro y hy
  obtain ⟨x, hx, rfl⟩ := List.mem_map.1 hy
  have h1 := nbits_lt x (h x hx)
  refine ⟨by unfold okF nb; omega, ?_⟩
  rw [nb_nb x (h x hx)]
  rfl
theorem text_nb (l : List Int) (h : ∀ x ∈ l, okF x) : text (l.map nb) = text l := by
  have e : (l.map nb).map H = l.map H := by
    rw [List.map_map]
    apply List.map_congr_left
    intro x hx
    show H (nb x) = H x
    unfold H
    rw [nb_nb x (h x hx)]
  unfold text
  rw [e, List.length_map]
theorem text_size (l : List Int) (h : l.length ≤ 40) : (text l).size ≤ 2000 := by
  unfold text
  split
  · decide
  · rw [Lib.size_eq]
    cases l with
    | nil => simp [Lib.join]
    | cons a r =>
      have h1 := tail_len r
      have h2 := H_len a
      simp only [List.length_cons] at h
      rw [List.map_cons, Lib.join_cons]
      simp only [List.size_toArray, List.length_append, h2]
      omega
theorem pcs_none : ∀ s : ByteArray, s.toList = [110, 111, 110, 101] → ∀ m : List Int, pcs s ≠ m.map T := by
  intro s hs m e
  have e1 : s = ⟨#[110, 111, 110, 101]⟩ := (none_text s hs).symm.trans rfl
  subst e1
  have e2 : pcs ⟨#[110, 111, 110, 101]⟩ = [⟨#[110, 111, 110, 101]⟩] := by rfl
  rw [e2] at e
  cases m with
  | nil => cases e
  | cons a r =>
    simp only [List.map_cons, List.cons.injEq] at e
    have := T_size a
    rw [← e.1] at this
    exact absurd this (by decide)
theorem read_text (l : List Int) (h : ∀ x ∈ l, okF x) (hn : l.length ≤ 40) : ∃ t : ByteArray, impl_NumbersText.f 400 l = some (t, true) ∧ impl_ReadNumbers.f 600 t = some (l.map nb, true) := by
  refine ⟨text l, ?_, ?_⟩
  · rw [impl_NT l h 400 (by omega)]
    unfold answer
    rw [if_pos (by omega)]
  · cases l with
    | nil =>
      unfold impl_ReadNumbers.f impl_pieces.f
      have h0 : (text []).toList = [110, 111, 110, 101] := by rw [Lib.toList_data]; rfl
      rw [if_pos h0]
      simp only [Option.bind_some]
      have := impl_list (text []) [] (by simp) 0 600 0 [] rfl (by simp) (fun x hx => by cases hx) (by omega)
      have e : asked (text []) (imL (([] : List ByteArray).drop 0) []) = ([], true) := by
        show (if text [] = text [] then (([] : List Int), true) else ([], false)) = _
        rw [if_pos rfl]
      rw [e] at this
      exact this
    | cons a r =>
      have hg := good_nb (a :: r) h
      have ht := text_nb (a :: r) h
      have hne : (a :: r).map nb ≠ [] := by simp
      have hp := pcs_text _ hne
      have hsz := text_size (a :: r) hn
      have hlen : ((a :: r).map nb).length = (a :: r).length := List.length_map ..
      rw [ht] at hp
      generalize (a :: r).map nb = m at hg ht hne hp hlen ⊢
      generalize text (a :: r) = s at ht hp hsz ⊢
      have hnone : ¬ s.toList = [110, 111, 110, 101] := fun e => pcs_none s e m hp
      unfold impl_ReadNumbers.f impl_pieces.f
      rw [if_neg hnone, split_f s (by omega) 600]
      simp only [Option.bind_some]
      have hl : (pcs s).length = m.length := by rw [hp, List.length_map]
      have hi := impl_list s (pcs s) (by omega) (pcs s).length 600 0 [] (by omega) (by simp) (fun x hx => by cases hx) (by omega)
      rw [List.drop_zero, show ((0 : Nat) : Int) = 0 from rfl] at hi
      rw [hi, hp, imL_T m hg [] (by simp only [List.length_nil]; omega)]
      show some (if text ([] ++ m) = s then ([] ++ m, true) else ([], false)) = _
      rw [List.nil_append, if_pos ht]
end FnExactReadNumbersParts
end Go.Proofs.YtpfjcfhgckpjmaaGreatDoor.Rp
