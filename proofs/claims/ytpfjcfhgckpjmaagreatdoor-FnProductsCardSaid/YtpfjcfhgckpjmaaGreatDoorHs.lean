/- internal/strconv.formatBits at base 16, and who calls it: walks by hand. internal/strconv.ParseUint and strconv.ParseUint at base 16, 32 bits, at texts of up to eight bytes: walks by hand (after the kit's own at base 10). What the library's functions answer, as the walks of this seat take it; a number's bits. What the library's functions answer, as the walk of ReadNumbers takes it. -/
import Derived.Test.YtpfjcfhgckpjmaaGreatDoorShelf
import Derived.Test.YtpfjcfhgckpjmaaGreatDoorWMore
import Derived.Lib.Walk
import Derived.Lib.ItoaMem
import Derived.WalkKit
import Derived.BigCall
import Derived.BigGuard
import Derived.Laws.Bits64b
import Derived.Stop.LaidErr
import Derived.Shelf.Strconv.ParseUint10b32
import Derived.Lib.AtoiErrMem
import Derived.Lib.ParseIntBMem
import Derived.Test.YtpfjcfhgckpjmaaGreatDoorA
import Derived.Test.YtpfjcfhgckpjmaaGreatDoorFt
namespace Go.Proofs.YtpfjcfhgckpjmaaGreatDoor.Hx
open Go.Shelf Go.RowKit Go.Sort Go.Lib Go.Proofs.YtpfjcfhgckpjmaaGreatDoorW.PrintWords
set_option linter.unusedVariables false
theorem key : IntKind.u64.wrap (bits BinOp.and IntKind.u64 16 (IntKind.u64.wrap (-16)) * 285870213051353865) / 288230376151711744 = 15 := by decide +kernel
theorem tz64 (w : World) (h : w.cell? ⟨6, 15, none⟩ = some (.int .u8 4)) : Calls Tryz.prog 127 #[.int .u64 16] w fun e w' => e = .returned (.int .i64 4) ∧ w' = w := by
  go_enter Tryz.func127, Tryz.ntmps127
  go_wp2_with (simp only [key])
  go_ret
  exact ⟨rfl, rfl⟩
theorem tz (w : World) (h : w.cell? ⟨6, 15, none⟩ = some (.int .u8 4)) : Calls Tryz.prog 116 #[.int .u64 16] w fun e w' => e = .returned (.int .i64 4) ∧ w' = w := by
  go_enter Tryz.func116, Tryz.ntmps116
  go_wp2_with (go_at_call 127; refine (tz64 _ h).mono ?_; rintro e w' ⟨rfl, rfl⟩)
  go_ret
  exact ⟨rfl, rfl⟩
theorem ispow (w : World) : Calls Tryz.prog 115 #[.int .i64 16] w fun e w' => e = .returned (.bool true) ∧ w' = w := by
  go_enter Tryz.func115, Tryz.ntmps115
  go_wp2
  go_ret
  exact ⟨rfl, rfl⟩
/-- A hexadecimal digit. -/
def hexd (d : Nat) : UInt8 := if d < 10 then UInt8.ofNat (48 + d) else UInt8.ofNat (87 + d)
def hexDigits (u : Nat) : List UInt8 := if h : u < 16 then [hexd u] else hexDigits (u / 16) ++ [hexd (u % 16)]
theorem hexDigits_len (n : Nat) : ∀ u, u < 16 ^ (n + 1) → (hexDigits u).length ≤ n + 1 := by
  induction n with
  | zero => intro u h; rw [hexDigits, dif_pos (by simpa using h)]; simp
  | succ n ih =>
    intro u h
    by_cases hs : u < 16
    · rw [hexDigits, dif_pos hs]; simp
    · rw [hexDigits, dif_neg hs, List.length_append, List.length_singleton]
      have := ih (u / 16) (by rw [Nat.div_lt_iff_lt_mul (by decide)]; rw [← Nat.pow_succ]; exact h)
      omega
def rowc (i : Nat) (ds : List UInt8) : Array Value := (List.replicate i (Value.int .u8 0) ++ ds.map (fun b => Value.int .u8 (b.toNat : Int))).toArray
theorem rowc_cell (w : World) (t : TypeId) (j : Nat) (ds : List UInt8) : (w.alloc (.cells (rowc (j + 1) ds) t)).cell? ⟨w.heap.size, j, none⟩ = some (.int .u8 0) := by
  rw [World.cell?_alloc_new]
  unfold rowc
  rw [List.getElem?_toArray, List.getElem?_append_left (by rw [List.length_replicate]; omega), List.getElem?_replicate, if_pos (by omega)]
theorem rowc_set (j : Nat) (ds : List UInt8) (b : UInt8) : (rowc (j + 1) ds).setIfInBounds j (.int .u8 (b.toNat : Int)) = rowc j (b :: ds) := by
  apply Array.ext_getElem?
  intro k
  unfold rowc
  rw [List.setIfInBounds_toArray, List.getElem?_toArray, List.getElem?_toArray, List.getElem?_set]
  by_cases hk : j = k
  · subst hk
    rw [if_pos rfl, if_pos (by simp; omega), List.getElem?_append_right (by simp), List.length_replicate, Nat.sub_self]
    rfl
  · rw [if_neg hk]
    by_cases hl : k < j
    · rw [List.getElem?_append_left (by rw [List.length_replicate]; omega), List.getElem?_append_left (by rw [List.length_replicate]; omega), List.getElem?_replicate, List.getElem?_replicate, if_pos (by omega), if_pos hl]
    · rw [List.getElem?_append_right (by rw [List.length_replicate]; omega), List.getElem?_append_right (by rw [List.length_replicate]; omega), List.length_replicate, List.length_replicate]
      obtain ⟨t, rfl⟩ : ∃ t, k = j + 1 + t := ⟨k - j - 1, by omega⟩
      rw [show j + 1 + t - (j + 1) = t by omega, show j + 1 + t - j = t + 1 by omega, List.map_cons, List.getElem?_cons_succ]
theorem rowc_at (w : World) (t : TypeId) (i : Nat) (ds : List UInt8) (j : Nat) (h : j < ds.length) : (w.alloc (.cells (rowc i ds) t)).cell? ⟨w.heap.size, i + j, none⟩ = some (.int .u8 (ds[j].toNat : Int)) := by
  rw [World.cell?_alloc_new]
  unfold rowc
  rw [List.getElem?_toArray, List.getElem?_append_right (by rw [List.length_replicate]; omega), List.length_replicate, Nat.add_sub_cancel_left, List.getElem?_map, List.getElem?_eq_getElem h]
  rfl
theorem dig (k : Nat) (hk : k < 16) (h : k < (⟨#[48, 49, 50, 51, 52, 53, 54, 55, 56, 57, 97, 98, 99, 100, 101, 102, 103, 104, 105, 106, 107, 108, 109, 110, 111, 112, 113, 114, 115, 116, 117, 118, 119, 120, 121, 122]⟩ : ByteArray).size) :
    (⟨#[48, 49, 50, 51, 52, 53, 54, 55, 56, 57, 97, 98, 99, 100, 101, 102, 103, 104, 105, 106, 107, 108, 109, 110, 111, 112, 113, 114, 115, 116, 117, 118, 119, 120, 121, 122]⟩ : ByteArray)[k]'h = hexd k := by
  match k, hk, h with
  | 0, _, _ => rfl
  | 1, _, _ => rfl
  | 2, _, _ => rfl
  | 3, _, _ => rfl
  | 4, _, _ => rfl
  | 5, _, _ => rfl
  | 6, _, _ => rfl
  | 7, _, _ => rfl
  | 8, _, _ => rfl
  | 9, _, _ => rfl
  | 10, _, _ => rfl
  | 11, _, _ => rfl
  | 12, _, _ => rfl
  | 13, _, _ => rfl
  | 14, _, _ => rfl
  | 15, _, _ => rfl
  | k + 16, hk, _ => exact absurd hk (by omega)
theorem and15 (u : Nat) (hu : u < 4294967296) : bits BinOp.and IntKind.u64 (u : Int) 15 = ((u % 16 : Nat) : Int) := by
  have := bits_and_u64_nat u 15 (by omega) (by omega)
  rw [show ((15 : Nat) : Int) = 15 from rfl] at this
  rw [this, Nat.and_two_pow_sub_one_eq_mod u 4]
theorem hexDigits_big (u : Nat) (h : 16 ≤ u) : hexDigits u = hexDigits (u / 16) ++ [hexd (u % 16)] := by
  conv => lhs; rw [hexDigits, dif_neg (by omega)]
theorem hexDigits_small (u : Nat) (h : u < 16) : hexDigits u = [hexd u] := by rw [hexDigits, dif_pos h]
set_option maxRecDepth 100000 in
theorem formatBits (u0 : Nat) (hu : u0 < 4294967296) (w : World) (h : w.cell? ⟨6, 15, none⟩ = some (.int .u8 4)) :
    Calls Tryz.prog 97 #[.slice none 0 0, .int .u64 u0, .int .i64 16, .bool false, .bool false] w fun e w' => e = .returned (.tuple #[.slice none 0 0, .string ⟨(hexDigits u0).toArray⟩]) ∧ Below w.heap.size w w' := by
  have h' : ∀ o, (w.alloc o).cell? ⟨6, 15, none⟩ = some (.int .u8 4) := fun o => cell?_alloc_old o h
  go_enter Tryz.func97, Tryz.ntmps97
  go_wp2_with (first
    | (go_at_call 115; refine (ispow _).mono ?_; rintro e w' ⟨rfl, rfl⟩)
    | (go_at_call 116; refine (tz _ (h' _)).mono ?_; rintro e w' ⟨rfl, rfl⟩))
  go_loopg [1, 13] 65 (fun g vu vi wr => ∃ (u i : Nat) (ds : List UInt8), Hid (g = i) ∧ vu = .int .u64 (u : Int) ∧ vi = .int .i64 (i : Int) ∧ wr = w.alloc (.cells (rowc i ds) 138) ∧ u < 4294967296 ∧ Hid (i + ds.length = 65) ∧ Hid (hexDigits u0 = hexDigits u ++ ds) ∧ Hid ((hexDigits u).length + 57 ≤ i))
  case atStart => exact ⟨u0, 65, [], Lib.hid rfl, rfl, rfl, rfl, hu, Lib.hid rfl, Lib.hid (by simp), Lib.hid (by have := hexDigits_len 7 u0 (by simpa using hu); omega)⟩
  case round =>
    obtain ⟨u, i, ds, hg, rfl, rfl, rfl, hu1, hi, hd, hl⟩ := hrel
    obtain ⟨j, rfl⟩ : ∃ j, i = j + 1 := ⟨i - 1, by have := hl.out; omega⟩
    have e1 : ((j + 1 : Nat) : Int) - 1 = (j : Int) := by omega
    have hc : (w.alloc (.cells (rowc (j + 1) ds) 138)).cell? ⟨w.heap.size, j, none⟩ = some (.int .u8 0) := rowc_cell w 138 j ds
    have hj65 : j < 65 := by have := hi.out; omega
    by_cases hb : 16 ≤ u
    · have hbi : (16 : Int) ≤ (u : Int) := by omega
      have hand : bits BinOp.and IntKind.u64 (u : Int) 15 = ((u % 16 : Nat) : Int) := and15 u hu1
      have hm : u % 16 < 16 := Nat.mod_lt _ (by decide)
      go_wp2_with (simp only [e1, hand])
      rw [dig (u % 16) hm, rowc_set]
      go_roundg (gk - 1)
      case measure => have := hg.out; omega
      case rel =>
        have hb' := hexDigits_big u hb
        refine ⟨u / 16, j, hexd (u % 16) :: ds, Lib.hid (by have := hg.out; omega), by rw [Int.natCast_ediv]; rfl, rfl, rfl, by omega, Lib.hid (by have := hi.out; simp only [List.length_cons]; omega), Lib.hid ?_, Lib.hid ?_⟩
        · rw [hd.out, hb', List.append_assoc]; rfl
        · have := hl.out; rw [hb', List.length_append, List.length_singleton] at this; omega
    · have hbi : ¬ (16 : Int) ≤ (u : Int) := by omega
      have hm : u < 16 := by omega
      have hcv : ∀ c, (convert 22 9 (.slice (some ⟨w.heap.size, j, none⟩) (65 - j) c)).run Tryz.prog (w.alloc (.cells (rowc j (hexd u :: ds)) 138)) = .ok (.string ⟨(hexDigits u0).toArray⟩) (w.alloc (.cells (rowc j (hexd u :: ds)) 138)) := by
        intro c
        have e := run_convert_bytes_back (P := Tryz.prog) (w.alloc (.cells (rowc j (hexd u :: ds)) 138)) 22 9 5 ⟨w.heap.size, j, none⟩ c (hexd u :: ds) Tryz.underlying22 Tryz.underlying5 Tryz.underlying9 (fun q hq => by
          rw [Lib.add_plain]
          exact rowc_at w 138 j (hexd u :: ds) q hq)
        rw [show (hexd u :: ds).length = 65 - j by have := hi.out; simp only [List.length_cons]; omega] at e
        rw [e, hd.out, hexDigits_small u hm]
        rfl
      have hsl : ∀ W, (Instr.sliceAt 138 (.pointer (some ⟨w.heap.size, 0, none⟩)) (some (.int .i64 (j : Int))) none none).run Tryz.prog W = .ok (.slice (some ⟨w.heap.size, j, none⟩) (65 - j) (65 - j)) W := by
        intro W
        have hal : Tryz.prog.arrayLen 138 = 65 := by simp [Program.arrayLen, Tryz.underlying138]
        rw [run_sliceAt_array_l W 138 ⟨w.heap.size, 0, none⟩ (by simp [Program.arrayLen, Program.elem, Tryz.underlying138]) .i64 (j : Int) (by omega) (by rw [hal]; omega)]
        go_simp
        intro e0; omega
      have HCV := Lib.hid hcv
      clear hcv
      go_wp2_with (first | (simp only [e1]) | (simp only [hsl]))
      rw [dig u hm, rowc_set, HCV.out]
      simp only [Result.andThen]
      rw [Oper.upon_value]
      go_wp2
      go_ret2
      exact ⟨rfl, below_alloc (Below.refl _ _) _⟩
theorem formatInt42 (u0 : Nat) (hu : u0 < 4294967296) (w : World) (h : w.cell? ⟨6, 15, none⟩ = some (.int .u8 4)) :
    Calls Tryz.prog 84 #[.int .i64 u0, .int .i64 16] w fun e w' => e = .returned (.string ⟨(hexDigits u0).toArray⟩) ∧ Below w.heap.size w w' := by
  have hn : ¬ (u0 : Int) < 0 := by omega
  go_enter Tryz.func84, Tryz.ntmps84
  go_wp2_with (go_at_call 97; refine (formatBits u0 hu _ h).mono ?_; rintro e w' ⟨rfl, hb⟩)
  go_ret
  exact ⟨rfl, hb⟩
theorem formatHex (u0 : Nat) (hu : u0 < 4294967296) (w : World) (h : w.cell? ⟨6, 15, none⟩ = some (.int .u8 4)) :
    Calls Tryz.prog 73 #[.int .i64 u0, .int .i64 16] w fun e w' => e = .returned (.string ⟨(hexDigits u0).toArray⟩) ∧ Below w.heap.size w w' := by
  go_enter Tryz.func73, Tryz.ntmps73
  go_wp2_with (go_at_call 84; refine (formatInt42 u0 hu _ h).mono ?_; rintro e w' ⟨rfl, hb⟩)
  go_ret
  exact ⟨rfl, hb⟩
end Go.Proofs.YtpfjcfhgckpjmaaGreatDoor.Hx
namespace Go.Proofs.YtpfjcfhgckpjmaaGreatDoor.Px
open Go.Shelf Go.RowKit
set_option linter.unusedVariables false
/-- What a byte is worth as a hexadecimal digit. -/
def hv (c : UInt8) : Option Nat := if 48 ≤ c.toNat ∧ c.toNat ≤ 57 then some (c.toNat - 48) else if 97 ≤ (c.toNat ||| 32) ∧ (c.toNat ||| 32) ≤ 102 then some ((c.toNat ||| 32) - 87) else none
def parseH : Nat → List UInt8 → Option Nat
  | acc, [] => some acc
  | acc, c :: r => match hv c with
    | some d => parseH (acc * 16 + d) r
    | none => none
def retH : Option Nat → Value
  | some n => .tuple #[.int .u64 (n : Int), .nilIface]
  | none => .tuple #[.int .u64 0, .iface 129 (.int .i64 2)]
theorem or32 : ∀ n : Nat, n < 256 → bits .or .u8 (n : Int) 32 = ((n ||| 32 : Nat) : Int) := by decide +kernel
theorem or32_lt : ∀ n : Nat, n < 256 → (n ||| 32) < 256 := by decide +kernel
theorem pow_room (k acc : Nat) (h : acc < 16 ^ k) (hk : k < 8) (d : Nat) (hd : d < 16) : acc * 16 + d < 4294967296 ∧ acc * 16 + d < 16 ^ (k + 1) := by
  have h1 : 16 ^ k ≤ 16 ^ 7 := Nat.pow_le_pow_right (by decide) (by omega)
  have h2 : (16 : Nat) ^ 7 = 268435456 := rfl
  refine ⟨by omega, ?_⟩
  rw [Nat.pow_succ]
  omega
set_option maxHeartbeats 32000000 in
set_option maxRecDepth 100000 in
theorem parse51 (t : ByteArray) (hne : t.size ≠ 0) (hmax : t.size ≤ 8) (w : World) :
    Calls Tryz.prog 92 #[.string t, .int .i64 16, .int .i64 32] w fun e w' => e = .returned (retH (parseH 0 t.data.toList)) ∧ w' = Lib.bytesWorld w 5 t := by
  have hemp : t.toList.isEmpty = false := by
    rw [← decide_eq_emptyBytes]
    exact decide_eq_false (fun h => hne (by rw [h]; rfl))
  have hcv := Lib.run_convert_string_bytes (P := Tryz.prog) w 9 22 5 t (u := .string) Tryz.underlying9 Tryz.underlying22 Tryz.underlying5
  have hB : ∀ j, j < t.size → (Lib.bytesWorld w 5 t).cell? ⟨w.heap.size, j, none⟩ = some (.int .u8 (t.data.toList.getD j 0).toNat) := fun j hj => Lib.bytesWorld_cell w 5 t j hj
  obtain ⟨W1, hW1⟩ : ∃ W1, W1 = Lib.bytesWorld w 5 t := ⟨_, rfl⟩
  rw [← hW1] at hcv hB ⊢
  clear hW1
  obtain ⟨bs, hL⟩ : ∃ bs, bs = t.data.toList := ⟨_, rfl⟩
  have hLn : bs.length = t.size := by rw [hL, Lib.size_eq]
  rw [← hL] at hB ⊢
  clear hL
  have hmv : IntKind.u64.wrap (IntKind.u64.wrap 4294967296 - 1) = 4294967295 := by
    rw [IntKind.wrap_u64, IntKind.wrap_u64]
    decide
  go_enter Tryz.func92, Tryz.ntmps92
  go_wp2
  go_loop [12, 13, 101] (fun vu vn vi => ∃ (k acc : Nat) (a : Int), vu = .bool false ∧ vn = .int .u64 a ∧ vi = .int .i64 k ∧ k ≤ t.size ∧ Hid (a = (acc : Int)) ∧ Hid (acc < 16 ^ k) ∧ Hid (parseH 0 bs = parseH acc (bs.drop k)))
    (fun _ _ vi => t.size - (intOf vi).toNat)
  case atStart => exact ⟨0, 0, 0, rfl, rfl, rfl, by omega, Lib.hid rfl, Lib.hid (by decide), Lib.hid rfl⟩
  case round =>
    obtain ⟨k, acc, a, rfl, rfl, rfl, hk, ha, hacc, hdec⟩ := hrel
    by_cases hkn : k < t.size
    · have hc := hB k hkn
      have hdrop : bs.drop k = bs[k]'(by omega) :: bs.drop (k + 1) := List.drop_eq_getElem_cons (by omega)
      have hget : bs.getD k 0 = bs[k]'(by omega) := by simp [List.getD, List.getElem?_eq_getElem (show k < bs.length by omega)]
      have hdec' := hdec.out
      rw [hdrop] at hdec'
      rw [hget] at hc
      generalize bs[k]'(by omega) = c at hc hdec'
      have hc256 : c.toNat < 256 := c.toNat_lt
      clear hB hdrop hget hdec
      have hroom := fun d hd => pow_room k acc hacc.out (by omega) d hd
      have hor := or32 c.toNat hc256
      have hol := or32_lt c.toNat hc256
      have hv0 : hv c = if 48 ≤ c.toNat ∧ c.toNat ≤ 57 then some (c.toNat - 48) else if 97 ≤ (c.toNat ||| 32) ∧ (c.toNat ||| 32) ≤ 102 then some ((c.toNat ||| 32) - 87) else none := rfl
      have hpe : parseH acc (c :: bs.drop (k + 1)) = match hv c with | some d => parseH (acc * 16 + d) (bs.drop (k + 1)) | none => none := rfl
      rw [hpe, hv0] at hdec'
      clear hpe hv0
      generalize c.toNat ||| 32 = lo at *
      generalize c.toNat = z at *
      by_cases hdig : 48 ≤ z ∧ z ≤ 57
      · rw [if_pos hdig] at hdec'
        obtain ⟨hd0, hd1⟩ := hdig
        have hr := hroom (z - 48) (by omega)
        have HN := Lib.hid hdec'
        have HR := Lib.hid hr.2
        have HA : Hid (a * 16 + ((z : Int) - 48) = ((acc * 16 + (z - 48) : Nat) : Int)) := Lib.hid (by have := ha.out; omega)
        have i0 : a * 16 + ((z : Int) - 48) ≤ 4294967295 := by have := HA.out; omega
        have a0 : 0 ≤ a := by have := ha.out; omega
        have a1 : a ≤ 268435455 := by omega
        clear hdec' hr hroom hor hol hacc ha
        go_wp2
        refine ⟨⟨k + 1, acc * 16 + (z - 48), a * 16 + ((z : Int) - 48), rfl, rfl, (by first | rfl | (congr 1; omega)), by omega, HA, HR, HN⟩, by simp [intOf]; omega⟩
      · rw [if_neg hdig] at hdec'
        have hlow : ∀ W, Calls Tryz.prog 106 #[.int .u8 (z : Int)] W fun e w' => e = .returned (.int .u8 (lo : Int)) ∧ w' = W := fun W => (Tryz.internal_strconv_lower (z : Int) W).mono fun e w' ⟨he, hw⟩ => ⟨by rw [he, hor], hw⟩
        have hlow95 : ∀ W, z = 95 → Calls Tryz.prog 106 #[.int .u8 95] W fun e w' => e = .returned (.int .u8 (lo : Int)) ∧ w' = W := fun W h95 => by have := hlow W; rw [h95] at this; exact this
        by_cases hlet : 97 ≤ lo ∧ lo ≤ 102
        · rw [if_pos hlet] at hdec'
          obtain ⟨hl0, hl1⟩ := hlet
          have hr := hroom (lo - 87) (by omega)
          have HN := Lib.hid hdec'
          have HR := Lib.hid hr.2
          have HA : Hid (a * 16 + ((lo : Int) - 97 + 10) = ((acc * 16 + (lo - 87) : Nat) : Int)) := Lib.hid (by have := ha.out; omega)
          have i0 : a * 16 + ((lo : Int) - 97 + 10) ≤ 4294967295 := by have := HA.out; omega
          have a0 : 0 ≤ a := by have := ha.out; omega
          have a1 : a ≤ 268435455 := by omega
          have i1 : 97 ≤ (lo : Int) := by omega
          have i2 : (lo : Int) ≤ 122 := by omega
          have z1 : ¬ (48 ≤ (z : Int) ∧ (z : Int) ≤ 57) := by omega
          clear hdec' hr hroom hor hol hacc ha
          go_wp2_with (first | (go_at_call 106; refine (hlow _).mono ?_; rintro e w' ⟨rfl, rfl⟩) | (go_at_call 106; refine (hlow95 _ (by omega)).mono ?_; rintro e w' ⟨rfl, rfl⟩))
          all_goals (refine ⟨⟨k + 1, acc * 16 + (lo - 87), a * 16 + ((lo : Int) - 97 + 10), rfl, rfl, (by first | rfl | (congr 1; omega)), by omega, HA, HR, HN⟩, by simp [intOf]; omega⟩)
        · rw [if_neg hlet] at hdec'
          have HD : Hid (parseH 0 bs = none) := Lib.hid hdec'
          clear ha hacc hroom hor hdec'
          go_wp2_with (first | (go_at_call 106; refine (hlow _).mono ?_; rintro e w' ⟨rfl, rfl⟩) | (go_at_call 106; refine (hlow95 _ (by omega)).mono ?_; rintro e w' ⟨rfl, rfl⟩))
          all_goals go_ret2
          all_goals exact ⟨by rw [HD.out]; rfl, rfl⟩
    · have hkk : k = t.size := by omega
      subst hkk
      have hdec' := hdec.out
      rw [List.drop_eq_nil_of_le (by omega)] at hdec'
      have ha' := ha.out
      subst ha'
      have HD : Hid (parseH 0 bs = some acc) := Lib.hid hdec'
      clear ha hacc hdec hdec'
      go_wp2
      go_ret2
      exact ⟨by rw [HD.out]; rfl, rfl⟩
theorem parse39 (t : ByteArray) (hne : t.size ≠ 0) (hmax : t.size ≤ 8) (w : World) (h1 : ∃ te pe, w.cell? ⟨2, 0, none⟩ = some (.iface te pe)) :
    Calls Tryz.prog 77 #[.string t, .int .i64 16, .int .i64 32] w fun e w' => (∃ v, e = .returned (.tuple #[.int .u64 (((parseH 0 t.data.toList).getD 0 : Nat) : Int), v])) ∧ Below w.heap.size w w' := by
  have hI := parse51 t hne hmax w
  have hbw := Lib.bytesWorld_below w 5 t
  cases hp : parseH 0 t.data.toList with
  | some n =>
    rw [hp] at hI
    have hI : Calls Tryz.prog 92 #[.string t, .int .i64 16, .int .i64 32] w fun e w' => e = .returned (.tuple #[.int .u64 (n : Int), .nilIface]) ∧ w' = Lib.bytesWorld w 5 t := hI
    clear hp
    go_enter Tryz.func77, Tryz.ntmps77
    go_wp2_with (go_at_call 92; refine hI.mono ?_; rintro e W1 ⟨rfl, hW⟩)
    go_wp2
    go_ret2
    exact ⟨⟨_, rfl⟩, hW ▸ hbw⟩
  | none =>
    rw [hp] at hI
    have hI : Calls Tryz.prog 92 #[.string t, .int .i64 16, .int .i64 32] w fun e w' => e = .returned (.tuple #[.int .u64 0, .iface 129 (.int .i64 2)]) ∧ w' = Lib.bytesWorld w 5 t := hI
    obtain ⟨te, pe, hc⟩ := h1
    have hc' : (Lib.bytesWorld w 5 t).cell? ⟨2, 0, none⟩ = some (.iface te pe) := by rw [Lib.bytesWorld_old w 5 t _ (World.block_lt_of_cell? w _ hc)]; exact hc
    have hE := Tryz.strconv_toError_syntax ⟨#[80, 97, 114, 115, 101, 85, 105, 110, 116]⟩ t 16 32 _ (Lib.bytesWorld w 5 t) (by omega) hc' (.inr ⟨_, _, rfl⟩)
    clear hp hc hc'
    go_enter Tryz.func77, Tryz.ntmps77
    go_wp2_with (first | (go_at_call 92; refine hI.mono ?_; rintro e W1 ⟨rfl, rfl⟩) | (go_at_call 93; refine hE.mono ?_; rintro e W2 ⟨N, rfl, _, _, hb⟩))
    go_wp2
    go_ret2
    exact ⟨⟨_, rfl⟩, Go.Proofs.YtpfjcfhgckpjmaaGreatDoorW.PrintWords.below_then hbw hbw.size hb⟩
end Go.Proofs.YtpfjcfhgckpjmaaGreatDoor.Px
namespace Go.Proofs.YtpfjcfhgckpjmaaGreatDoor.Hb
open Go.Fl Go.RowKit Ieee Go.Proofs.YtpfjcfhgckpjmaaGreatDoorW.PrintWords
theorem call43 (args : Array Value) (w : World) : (callFunc 45 args).run Tryz.prog w = ((Extern.MathFloatBits.float32bits args).run Tryz.prog w).andThen fun v w' => .ok (.value v) w' :=
  run_callFunc_extern Tryz.func45 (by kernel_rfl) (by kernel_rfl) (by kernel_rfl) (by kernel_rfl) args w
theorem bits43 (b : Nat) (w : World) : (callFunc 45 #[.float .f32 b]).run Tryz.prog w = .ok (.value (.int .u32 b)) w := by rw [call43]; rfl
theorem bits37 (b : Nat) (hb : b < 4294967296) (w : World) : Calls Tryz.prog 78 #[.float .f32 b] w fun e w' => e = .returned (.int .i64 (bitsV (val .f32 b))) ∧ w = w' := by
  have ho := neq_self .f32 b
  have hc := fun w => bits43 b w
  by_cases hn : FloatKind.f32.format.nan b = true
  · rw [hn] at ho
    rw [val_nan hn]
    clear hn
    go_enter Tryz.func78, Tryz.ntmps78
    go_wp2
    go_ret
    exact ⟨rfl, rfl⟩
  · have hn' : FloatKind.f32.format.nan b = false := by simpa using hn
    rw [hn'] at ho
    rw [val_num hn']
    clear hn hn'
    go_enter Tryz.func78, Tryz.ntmps78
    go_wp2
    go_ret
    exact ⟨rfl, rfl⟩
theorem bits32 (b : Nat) (hb : b < 4294967296) (w : World) : Calls Tryz.prog 8 #[.float .f32 b] w fun e w' => e = .returned (.int .i64 (bitsV (val .f32 b))) ∧ w = w' := by
  have ho := neq_self .f32 b
  have hc := fun w => bits43 b w
  by_cases hn : FloatKind.f32.format.nan b = true
  · rw [hn] at ho
    rw [val_nan hn]
    clear hn
    go_enter Tryz.func8, Tryz.ntmps8
    go_wp2
    go_ret
    exact ⟨rfl, rfl⟩
  · have hn' : FloatKind.f32.format.nan b = false := by simpa using hn
    rw [hn'] at ho
    rw [val_num hn']
    clear hn hn'
    go_enter Tryz.func8, Tryz.ntmps8
    go_wp2
    go_ret
    exact ⟨rfl, rfl⟩
/-- The library's table of trailing zeros, where formatBits reads it. -/
def HT (w : World) : Prop := w.cell? ⟨6, 15, none⟩ = some (.int .u8 4)
theorem HT.below {w w' : World} (h : HT w) (hb : Below w.heap.size w w') : HT w' := by
  unfold HT at *
  rw [hb.cell (World.block_lt_of_cell? w _ h)]; exact h
theorem hexInt (n : Int) (h0 : 0 ≤ n) (h1 : n < 4294967296) (w : World) (ht : HT w) :
    Calls Tryz.prog 73 #[.int .i64 n, .int .i64 16] w fun e w' => e = .returned (.string ⟨(Hx.hexDigits n.toNat).toArray⟩) ∧ Below w.heap.size w w' := by
  obtain ⟨u, rfl⟩ : ∃ u : Nat, n = u := ⟨n.toNat, by omega⟩
  exact Hx.formatHex u (by omega) w ht
theorem rep (s : ByteArray) (c : Int) (hs : s.size = 1) (h0 : 0 ≤ c) (h1 : c ≤ 8) (w : World) :
    Calls Tryz.prog 74 #[.string s, .int .i64 c] w fun e w' => e = .returned (.string ⟨(Lib.repeatL s.data.toList c.toNat).toArray⟩) ∧ Below w.heap.size w w' := by
  obtain ⟨u, rfl⟩ : ∃ u : Nat, c = u := ⟨c.toNat, by omega⟩
  exact Tryz.strings_Repeat s u w (by omega) (by rw [hs]; omega)
/-- A text that a list's address tells is at a plain address. -/
theorem plain_of_cell {w : World} {ad : Addr} {v : Value} (h : w.cell? ad = some v) : ∃ b o, ad = ⟨b, o, none⟩ ∧ b < w.heap.size := by
  obtain ⟨b, o, spot⟩ := ad
  have hs : spot = none := World.cell?_spot h
  subst hs
  exact ⟨b, o, rfl, World.block_lt_of_cell? w _ h⟩
theorem strJoin (A : Option Addr) (c : Nat) (xs : List ByteArray) (sep : ByteArray) (w : World) (hr : Kd.C Kd.string w A xs.length xs) (hc : xs.length ≤ c) (hN : xs.length ≤ 140737488355328) (hlen : (Lib.join (xs.map (·.data.toList)) sep.data.toList).length ≤ 140737488355328) :
    Calls Tryz.prog 75 #[.slice A xs.length c, .string sep] w fun e w' => e = .returned (.string ⟨(Lib.join (xs.map (·.data.toList)) sep.data.toList).toArray⟩) ∧ Below w.heap.size w w' := by
  have R := Kd.reads_of_C (enc := Value.string) (d := ByteArray.empty) (h1 := fun _ => rfl) hr
  by_cases h0 : xs.length = 0
  · have hx := List.eq_nil_of_length_eq_zero h0
    subst hx
    exact (Tryz.strings_Join_none A c sep w).mono fun e w' ⟨he, hw⟩ => ⟨he, by rw [hw]; exact Below.refl _ _⟩
  · obtain ⟨ad, rfl, hcell⟩ := R.2.2 (by omega)
    have had : ∃ b o, ad = ⟨b, o, none⟩ ∧ b < w.heap.size := by
      have h := hcell 0 (by omega)
      have e : ad.add 0 = ad := by simp [Addr.add]
      rw [e] at h
      exact plain_of_cell h
    obtain ⟨bk, ok, rfl, hbk⟩ := had
    refine Tryz.strings_Join bk ok c xs sep w (fun j x hj => ?_) hbk hN hc hlen
    have hl : j < xs.length := (List.getElem?_eq_some_iff.1 hj).1
    have h := hcell j hl
    rw [List.getD_eq_getElem?_getD, hj, Go.WideShapes.add_plain] at h
    exact h
end Go.Proofs.YtpfjcfhgckpjmaaGreatDoor.Hb
namespace Go.Proofs.YtpfjcfhgckpjmaaGreatDoor.Hs
open Go.Fl Go.RowKit Ieee Go.Proofs.YtpfjcfhgckpjmaaGreatDoorW.PrintWords
/-- The library's ErrSyntax holds an error that is not nil. -/
def E1 (w : World) : Prop := ∃ te pe, w.cell? ⟨2, 0, none⟩ = some (.iface te pe)
theorem E1.below {w w' : World} (h : E1 w) (hb : Below w.heap.size w w') : E1 w' := by
  obtain ⟨t, p, h⟩ := h
  exact ⟨t, p, by rw [hb.cell (World.block_lt_of_cell? w _ h)]; exact h⟩
/-- The library's bytealg.MaxLen holds some number. -/
def SP (w : World) : Prop := ∃ m, w.cell? ⟨4, 0, none⟩ = some (.int .i64 m)
theorem SP.below {w w' : World} (h : SP w) (hb : Below w.heap.size w w') : SP w' := by
  obtain ⟨m, h⟩ := h
  exact ⟨m, by rw [hb.cell (World.block_lt_of_cell? w _ h)]; exact h⟩
def HS (w : World) : Prop := Hb.HT w ∧ E1 w ∧ SP w
theorem HS.below {w w' : World} (h : HS w) (hb : Below w.heap.size w w') : HS w' := ⟨h.1.below hb, h.2.1.below hb, h.2.2.below hb⟩
theorem sp_of_shaped {w : World} (h : w.ShapedOpen Tryz.prog) : SP w :=
  Go.Proofs.cell_of_shapedOpen_int (zero := #[.int .i64 0]) (t := 3) h (of_decide_eq_true (by kernel_rfl)) (by kernel_rfl) rfl (by kernel_rfl) (by kernel_rfl) Tryz.underlying3
theorem splitStr (s sep : ByteArray) (hs : s.size < 4294967281) (h1 : 1 ≤ sep.size) (w : World) (hp : SP w) :
    Calls Tryz.prog 76 #[.string s, .string sep] w fun e w' => ∃ v0_ : Value, e = .returned (v0_) ∧ Kd.R Kd.string 9 w' w.heap.size (fun _ => True) v0_ (Lib.splitB sep 0 (Lib.countB s sep) s) ∧ Below w.heap.size w w' := by
  obtain ⟨m, hm⟩ := hp
  refine (Tryz.strings_Split s sep m w hs hm h1).mono fun e w' ⟨he, hw⟩ => ⟨_, he, ?_, ?_⟩
  · have hl := Lib.splitB_all sep h1 0 _ s rfl
    have hb := Lib.countB_le sep h1 _ s (Nat.le_refl _)
    rw [hw, ← hl]
    refine Kd.R_of_own (own_lit_of (enc := Value.string) w w.heap.size 9 _ (Nat.le_refl _) (by omega)) (fun _ _ => trivial)
  · rw [hw]; exact below_alloc (Below.refl _ _) _
theorem readHex (s : ByteArray) (hs : s.size = 8) (w : World) (h1 : E1 w) :
    Calls Tryz.prog 51 #[.string s] w fun e w' => e = .returned (.float .f32 ((((Px.parseH 0 s.data.toList).getD 0 % 4294967296 : Nat)) : Int).toNat) ∧ Below w.heap.size w w' := by
  have hI := Px.parse39 s (by omega) (by omega) w h1
  generalize (Px.parseH 0 s.data.toList).getD 0 = n at *
  have hw : IntKind.u32.wrap (n : Int) = ((n % 4294967296 : Nat) : Int) := by simp [IntKind.wrap, IntKind.bits, IntKind.signed]
  have hc := fun n w => from40 n w
  go_enter Tryz.func51, Tryz.ntmps51
  go_wp2_with (go_at_call 77; refine hI.mono ?_; rintro e w' ⟨⟨v, rfl⟩, hb⟩)
  go_ret
  exact ⟨rfl, hb⟩
/-- A whole number as a single's bits. -/
def mk (x : Int) : Int := ((Go.floatOfInt .f32 x : Nat) : Int)
def okI (x : Int) : Bool := !FloatKind.f32.format.nan (Go.floatOfInt .f32 x)
theorem mkself {x : Int} (h : okI x = true) : (FloatKind.f32.format.order (Go.floatOfInt .f32 x) (Go.floatOfInt .f32 x) != some .eq) = false := by
  rw [neq_self]
  unfold okI at h
  simpa using h
theorem cellmk {w : World} {ad : Addr} {l : List Int} {i x : Int} (h : w.cell? ad = some (.float .f32 (rd l i).toNat)) (e : rd l i = mk x) : w.cell? ad = some (.float .f32 (Go.floatOfInt .f32 x)) := by
  rw [e] at h; exact h
end Go.Proofs.YtpfjcfhgckpjmaaGreatDoor.Hs
