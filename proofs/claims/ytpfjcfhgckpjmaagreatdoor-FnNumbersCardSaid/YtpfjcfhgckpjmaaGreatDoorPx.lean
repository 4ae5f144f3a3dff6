/- internal/strconv.ParseUint and strconv.ParseUint at base 16, 32 bits, at texts of up to eight bytes: walks by hand (after the kit's own at base 10). -/
import Derived.Test.YtpfjcfhgckpjmaaGreatDoorShelf
import Derived.Test.YtpfjcfhgckpjmaaGreatDoorWMore
import Derived.Shelf.Strconv.ParseUint10b32
import Derived.Lib.Walk
import Derived.Lib.AtoiErrMem
import Derived.Lib.ParseIntBMem
import Derived.WalkKit
import Derived.BigCall
import Derived.BigGuard
namespace Go.Proofs.YtpfjcfhgckpjmaaGreatDoor.Px
open Go.Shelf Go.RowKit
set_option linter.unusedVariables false
/-- What a byte is worth as a hexadecimal digit. -/
def hv (c : UInt8) : Option Nat := if 48 ≤ c.toNat ∧ c.toNat ≤ 57 then some (c.toNat - 48) else if 97 ≤ (c.toNat ||| 32) ∧ (c.toNat ||| 32) ≤ 102 then some ((c.toNat ||| 32) - 87) else none
def parseH : Nat → List UInt8 → Option Nat
  | acc, [] => some acc
  | acc, c :: r => match hv c with
    | some d => parseH (acc * 16 + d) r
    | none => none
def retH : Option Nat → Value
  | some n => .tuple #[.int .u64 (n : Int), .nilIface]
  | none => .tuple #[.int .u64 0, .iface 129 (.int .i64 2)]
theorem or32 : ∀ n : Nat, n < 256 → bits .or .u8 (n : Int) 32 = ((n ||| 32 : Nat) : Int) := by decide +kernel
theorem or32_lt : ∀ n : Nat, n < 256 → (n ||| 32) < 256 := by decide +kernel
theorem pow_room (k acc : Nat) (h : acc < 16 ^ k) (hk : k < 8) (d : Nat) (hd : d < 16) : acc * 16 + d < 4294967296 ∧ acc * 16 + d < 16 ^ (k + 1) := by
  have h1 : 16 ^ k ≤ 16 ^ 7 := Nat.pow_le_pow_right (by decide) (by omega)
  have h2 : (16 : Nat) ^ 7 = 268435456 := rfl
  refine ⟨by omega, ?_⟩
  rw [Nat.pow_succ]
  omega
set_option maxHeartbeats 32000000 in
set_option maxRecDepth 100000 in
theorem parse51 (t : ByteArray) (hne : t.size ≠ 0) (hmax : t.size ≤ 8) (w : World) :
    Calls Tryz.prog 92 #[.string t, .int .i64 16, .int .i64 32] w fun e w' => e = .returned (retH (parseH 0 t.data.toList)) ∧ w' = Lib.bytesWorld w 5 t := by
  have hemp : t.toList.isEmpty = false := by
    rw [← decide_eq_emptyBytes]
    exact decide_eq_false (fun h => hne (by rw [h]; rfl))
  have hcv := Lib.run_convert_string_bytes (P := Tryz.prog) w 9 22 5 t (u := .string) Tryz.underlying9 Tryz.underlying22 Tryz.underlying5
  have hB : ∀ j, j < t.size → (Lib.bytesWorld w 5 t).cell? ⟨w.heap.size, j, none⟩ = some (.int .u8 (t.data.toList.getD j 0).toNat) := fun j hj => Lib.bytesWorld_cell w 5 t j hj
  obtain ⟨W1, hW1⟩ : ∃ W1, W1 = Lib.bytesWorld w 5 t := ⟨_, rfl⟩
  rw [← hW1] at hcv hB ⊢
  clear hW1
  obtain ⟨bs, hL⟩ : ∃ bs, bs = t.data.toList := ⟨_, rfl⟩
  have hLn : bs.length = t.size := by rw [hL, Lib.size_eq]
  rw [← hL] at hB ⊢
  clear hL
  have hmv : IntKind.u64.wrap (IntKind.u64.wrap 4294967296 - 1) = 4294967295 := by
    rw [IntKind.wrap_u64, IntKind.wrap_u64]
    decide
  go_enter Tryz.func92, Tryz.ntmps92
  go_wp2
  go_loop [12, 13, 101] (fun vu vn vi => ∃ (k acc : Nat) (a : Int), vu = .bool false ∧ vn = .int .u64 a ∧ vi = .int .i64 k ∧ k ≤ t.size ∧ Hid (a = (acc : Int)) ∧ Hid (acc < 16 ^ k) ∧ Hid (parseH 0 bs = parseH acc (bs.drop k)))
    (fun _ _ vi => t.size - (intOf vi).toNat)
  case atStart => exact ⟨0, 0, 0, rfl, rfl, rfl, by omega, Lib.hid rfl, Lib.hid (by decide), Lib.hid rfl⟩
  case round =>
    obtain ⟨k, acc, a, rfl, rfl, rfl, hk, ha, hacc, hdec⟩ := hrel
    by_cases hkn : k < t.size
    · have hc := hB k hkn
      have hdrop : bs.drop k = bs[k]'(by omega) :: bs.drop (k + 1) := List.drop_eq_getElem_cons (by omega)
      have hget : bs.getD k 0 = bs[k]'(by omega) := by simp [List.getD, List.getElem?_eq_getElem (show k < bs.length by omega)]
      have hdec' := hdec.out
      rw [hdrop] at hdec'
      rw [hget] at hc
      generalize bs[k]'(by omega) = c at hc hdec'
      have hc256 : c.toNat < 256 := c.toNat_lt
      clear hB hdrop hget hdec
      have hroom := fun d hd => pow_room k acc hacc.out (by omega) d hd
      have hor := or32 c.toNat hc256
      have hol := or32_lt c.toNat hc256
      have hv0 : hv c = if 48 ≤ c.toNat ∧ c.toNat ≤ 57 then some (c.toNat - 48) else if 97 ≤ (c.toNat ||| 32) ∧ (c.toNat ||| 32) ≤ 102 then some ((c.toNat ||| 32) - 87) else none := rfl
      have hpe : parseH acc (c :: bs.drop (k + 1)) = match hv c with | some d => parseH (acc * 16 + d) (bs.drop (k + 1)) | none => none := rfl
      rw [hpe, hv0] at hdec'
      clear hpe hv0
      generalize c.toNat ||| 32 = lo at *
      generalize c.toNat = z at *
      by_cases hdig : 48 ≤ z ∧ z ≤ 57
      · rw [if_pos hdig] at hdec'
        obtain ⟨hd0, hd1⟩ := hdig
        have hr := hroom (z - 48) (by omega)
        have HN := Lib.hid hdec'
        have HR := Lib.hid hr.2
        have HA : Hid (a * 16 + ((z : Int) - 48) = ((acc * 16 + (z - 48) : Nat) : Int)) := Lib.hid (by have := ha.out; omega)
        have i0 : a * 16 + ((z : Int) - 48) ≤ 4294967295 := by have := HA.out; omega
        have a0 : 0 ≤ a := by have := ha.out; omega
        have a1 : a ≤ 268435455 := by omega
        clear hdec' hr hroom hor hol hacc ha
        go_wp2
        refine ⟨⟨k + 1, acc * 16 + (z - 48), a * 16 + ((z : Int) - 48), rfl, rfl, (by first | rfl | (congr 1; omega)), by omega, HA, HR, HN⟩, by simp [intOf]; omega⟩
      · rw [if_neg hdig] at hdec'
        have hlow : ∀ W, Calls Tryz.prog 106 #[.int .u8 (z : Int)] W fun e w' => e = .returned (.int .u8 (lo : Int)) ∧ w' = W := fun W => (Tryz.internal_strconv_lower (z : Int) W).mono fun e w' ⟨he, hw⟩ => ⟨by rw [he, hor], hw⟩
        have hlow95 : ∀ W, z = 95 → Calls Tryz.prog 106 #[.int .u8 95] W fun e w' => e = .returned (.int .u8 (lo : Int)) ∧ w' = W := fun W h95 => by have := hlow W; rw [h95] at this; exact this
        by_cases hlet : 97 ≤ lo ∧ lo ≤ 102
        · rw [if_pos hlet] at hdec'
          obtain ⟨hl0, hl1⟩ := hlet
          have hr := hroom (lo - 87) (by omega)
          have HN := Lib.hid hdec'
          have HR := Lib.hid hr.2
          have HA : Hid (a * 16 + ((lo : Int) - 97 + 10) = ((acc * 16 + (lo - 87) : Nat) : Int)) := Lib.hid (by have := ha.out; omega)
          have i0 : a * 16 + ((lo : Int) - 97 + 10) ≤ 4294967295 := by have := HA.out; omega
          have a0 : 0 ≤ a := by have := ha.out; omega
          have a1 : a ≤ 268435455 := by omega
          have i1 : 97 ≤ (lo : Int) := by omega
          have i2 : (lo : Int) ≤ 122 := by omega
          have z1 : ¬ (48 ≤ (z : Int) ∧ (z : Int) ≤ 57) := by omega
          clear hdec' hr hroom hor hol hacc ha
          go_wp2_with (first | (go_at_call 106; refine (hlow _).mono ?_; rintro e w' ⟨rfl, rfl⟩) | (go_at_call 106; refine (hlow95 _ (by omega)).mono ?_; rintro e w' ⟨rfl, rfl⟩))
          all_goals (refine ⟨⟨k + 1, acc * 16 + (lo - 87), a * 16 + ((lo : Int) - 97 + 10), rfl, rfl, (by first | rfl | (congr 1; omega)), by omega, HA, HR, HN⟩, by simp [intOf]; omega⟩)
        · rw [if_neg hlet] at hdec'
          have HD : Hid (parseH 0 bs = none) := Lib.hid hdec'
          clear ha hacc hroom hor hdec'
          go_wp2_with (first | (go_at_call 106; refine (hlow _).mono ?_; rintro e w' ⟨rfl, rfl⟩) | (go_at_call 106; refine (hlow95 _ (by omega)).mono ?_; rintro e w' ⟨rfl, rfl⟩))
          all_goals go_ret2
          all_goals exact ⟨by rw [HD.out]; rfl, rfl⟩
    · have hkk : k = t.size := by omega
      subst hkk
      have hdec' := hdec.out
      rw [List.drop_eq_nil_of_le (by omega)] at hdec'
      have ha' := ha.out
      subst ha'
      have HD : Hid (parseH 0 bs = some acc) := Lib.hid hdec'
      clear ha hacc hdec hdec'
      go_wp2
      go_ret2
      exact ⟨by rw [HD.out]; rfl, rfl⟩
theorem parse39 (t : ByteArray) (hne : t.size ≠ 0) (hmax : t.size ≤ 8) (w : World) (h1 : ∃ te pe, w.cell? ⟨2, 0, none⟩ = some (.iface te pe)) :
    Calls Tryz.prog 77 #[.string t, .int .i64 16, .int .i64 32] w fun e w' => (∃ v, e = .returned (.tuple #[.int .u64 (((parseH 0 t.data.toList).getD 0 : Nat) : Int), v])) ∧ Below w.heap.size w w' := by
  have hI := parse51 t hne hmax w
  have hbw := Lib.bytesWorld_below w 5 t
  cases hp : parseH 0 t.data.toList with
  | some n =>
    rw [hp] at hI
    have hI : Calls Tryz.prog 92 #[.string t, .int .i64 16, .int .i64 32] w fun e w' => e = .returned (.tuple #[.int .u64 (n : Int), .nilIface]) ∧ w' = Lib.bytesWorld w 5 t := hI
    clear hp
    go_enter Tryz.func77, Tryz.ntmps77
    go_wp2_with (go_at_call 92; refine hI.mono ?_; rintro e W1 ⟨rfl, hW⟩)
    go_wp2
    go_ret2
    exact ⟨⟨_, rfl⟩, hW ▸ hbw⟩
  | none =>
    rw [hp] at hI
    have hI : Calls Tryz.prog 92 #[.string t, .int .i64 16, .int .i64 32] w fun e w' => e = .returned (.tuple #[.int .u64 0, .iface 129 (.int .i64 2)]) ∧ w' = Lib.bytesWorld w 5 t := hI
    obtain ⟨te, pe, hc⟩ := h1
    have hc' : (Lib.bytesWorld w 5 t).cell? ⟨2, 0, none⟩ = some (.iface te pe) := by rw [Lib.bytesWorld_old w 5 t _ (World.block_lt_of_cell? w _ hc)]; exact hc
    have hE := Tryz.strconv_toError_syntax ⟨#[80, 97, 114, 115, 101, 85, 105, 110, 116]⟩ t 16 32 _ (Lib.bytesWorld w 5 t) (by omega) hc' (.inr ⟨_, _, rfl⟩)
    clear hp hc hc'
    go_enter Tryz.func77, Tryz.ntmps77
    go_wp2_with (first | (go_at_call 92; refine hI.mono ?_; rintro e W1 ⟨rfl, rfl⟩) | (go_at_call 93; refine hE.mono ?_; rintro e W2 ⟨N, rfl, _, _, hb⟩))
    go_wp2
    go_ret2
    exact ⟨⟨_, rfl⟩, Go.Proofs.YtpfjcfhgckpjmaaGreatDoorW.PrintWords.below_then hbw hbw.size hb⟩
end Go.Proofs.YtpfjcfhgckpjmaaGreatDoor.Px
