/- internal/strconv.formatBits at base 16, and who calls it: walks by hand. -/
import Derived.Test.YtpfjcfhgckpjmaaGreatDoorShelf
import Derived.Test.YtpfjcfhgckpjmaaGreatDoorWMore
import Derived.Lib.Walk
import Derived.Lib.ItoaMem
import Derived.WalkKit
import Derived.BigCall
import Derived.BigGuard
import Derived.Laws.Bits64b
import Derived.Stop.LaidErr
namespace Go.Proofs.YtpfjcfhgckpjmaaGreatDoor.Hx
open Go.Shelf Go.RowKit Go.Sort Go.Lib Go.Proofs.YtpfjcfhgckpjmaaGreatDoorW.PrintWords
set_option linter.unusedVariables false
theorem key : IntKind.u64.wrap (bits BinOp.and IntKind.u64 16 (IntKind.u64.wrap (-16)) * 285870213051353865) / 288230376151711744 = 15 := by decide +kernel
theorem tz64 (w : World) (h : w.cell? ⟨6, 15, none⟩ = some (.int .u8 4)) : Calls Tryz.prog 127 #[.int .u64 16] w fun e w' => e = .returned (.int .i64 4) ∧ w' = w := by
  go_enter Tryz.func127, Tryz.ntmps127
  go_wp2_with (simp only [key])
  go_ret
  exact ⟨rfl, rfl⟩
theorem tz (w : World) (h : w.cell? ⟨6, 15, none⟩ = some (.int .u8 4)) : Calls Tryz.prog 116 #[.int .u64 16] w fun e w' => e = .returned (.int .i64 4) ∧ w' = w := by
  go_enter Tryz.func116, Tryz.ntmps116
  go_wp2_with (go_at_call 127; refine (tz64 _ h).mono ?_; rintro e w' ⟨rfl, rfl⟩)
  go_ret
  exact ⟨rfl, rfl⟩
theorem ispow (w : World) : Calls Tryz.prog 115 #[.int .i64 16] w fun e w' => e = .returned (.bool true) ∧ w' = w := by
  go_enter Tryz.func115, Tryz.ntmps115
  go_wp2
  go_ret
  exact ⟨rfl, rfl⟩
/-- A hexadecimal digit. -/
def hexd (d : Nat) : UInt8 := if d < 10 then UInt8.ofNat (48 + d) else UInt8.ofNat (87 + d)
def hexDigits (u : Nat) : List UInt8 := if h : u < 16 then [hexd u] else hexDigits (u / 16) ++ [hexd (u % 16)]
theorem hexDigits_len (n : Nat) : ∀ u, u < 16 ^ (n + 1) → (hexDigits u).length ≤ n + 1 := by
  induction n with
  | zero => intro u h; rw [hexDigits, dif_pos (by simpa using h)]; simp
  | succ n ih =>
    intro u h
    by_cases hs : u < 16
    · rw [hexDigits, dif_pos hs]; simp
    · rw [hexDigits, dif_neg hs, List.length_append, List.length_singleton]
      have := ih (u / 16) (by rw [Nat.div_lt_iff_lt_mul (by decide)]; rw [← Nat.pow_succ]; exact h)
      omega
def rowc (i : Nat) (ds : List UInt8) : Array Value := (List.replicate i (Value.int .u8 0) ++ ds.map (fun b => Value.int .u8 (b.toNat : Int))).toArray
theorem rowc_cell (w : World) (t : TypeId) (j : Nat) (ds : List UInt8) : (w.alloc (.cells (rowc (j + 1) ds) t)).cell? ⟨w.heap.size, j, none⟩ = some (.int .u8 0) := by
  rw [World.cell?_alloc_new]
  unfold rowc
  rw [List.getElem?_toArray, List.getElem?_append_left (by rw [List.length_replicate]; omega), List.getElem?_replicate, if_pos (by omega)]
theorem rowc_set (j : Nat) (ds : List UInt8) (b : UInt8) : (rowc (j + 1) ds).setIfInBounds j (.int .u8 (b.toNat : Int)) = rowc j (b :: ds) := by
  apply Array.ext_getElem?
  intro k
  unfold rowc
  rw [List.setIfInBounds_toArray, List.getElem?_toArray, List.getElem?_toArray, List.getElem?_set]
  by_cases hk : j = k
  · subst hk
    rw [if_pos rfl, if_pos (by simp; omega), List.getElem?_append_right (by simp), List.length_replicate, Nat.sub_self]
    rfl
  · rw [if_neg hk]
    by_cases hl : k < j
    · rw [List.getElem?_append_left (by rw [List.length_replicate]; omega), List.getElem?_append_left (by rw [List.length_replicate]; omega), List.getElem?_replicate, List.getElem?_replicate, if_pos (by omega), if_pos hl]
    · rw [List.getElem?_append_right (by rw [List.length_replicate]; omega), List.getElem?_append_right (by rw [List.length_replicate]; omega), List.length_replicate, List.length_replicate]
      obtain ⟨t, rfl⟩ : ∃ t, k = j + 1 + t := ⟨k - j - 1, by omega⟩
      rw [show j + 1 + t - (j + 1) = t by omega, show j + 1 + t - j = t + 1 by omega, List.map_cons, List.getElem?_cons_succ]
theorem rowc_at (w : World) (t : TypeId) (i : Nat) (ds : List UInt8) (j : Nat) (h : j < ds.length) : (w.alloc (.cells (rowc i ds) t)).cell? ⟨w.heap.size, i + j, none⟩ = some (.int .u8 (ds[j].toNat : Int)) := by
  rw [World.cell?_alloc_new]
  unfold rowc
  rw [List.getElem?_toArray, List.getElem?_append_right (by rw [List.length_replicate]; omega), List.length_replicate, Nat.add_sub_cancel_left, List.getElem?_map, List.getElem?_eq_getElem h]
  rfl
theorem dig (k : Nat) (hk : k < 16) (h : k < (⟨#[48, 49, 50, 51, 52, 53, 54, 55, 56, 57, 97, 98, 99, 100, 101, 102, 103, 104, 105, 106, 107, 108, 109, 110, 111, 112, 113, 114, 115, 116, 117, 118, 119, 120, 121, 122]⟩ : ByteArray).size) :
    (⟨#[48, 49, 50, 51, 52, 53, 54, 55, 56, 57, 97, 98, 99, 100, 101, 102, 103, 104, 105, 106, 107, 108, 109, 110, 111, 112, 113, 114, 115, 116, 117, 118, 119, 120, 121, 122]⟩ : ByteArray)[k]'h = hexd k := by
  match k, hk, h with
  | 0, _, _ => rfl
  | 1, _, _ => rfl
  | 2, _, _ => rfl
  | 3, _, _ => rfl
  | 4, _, _ => rfl
  | 5, _, _ => rfl
  | 6, _, _ => rfl
  | 7, _, _ => rfl
  | 8, _, _ => rfl
  | 9, _, _ => rfl
  | 10, _, _ => rfl
  | 11, _, _ => rfl
  | 12, _, _ => rfl
  | 13, _, _ => rfl
  | 14, _, _ => rfl
  | 15, _, _ => rfl
  | k + 16, hk, _ => exact absurd hk (by omega)
theorem and15 (u : Nat) (hu : u < 4294967296) : bits BinOp.and IntKind.u64 (u : Int) 15 = ((u % 16 : Nat) : Int) := by
  have := bits_and_u64_nat u 15 (by omega) (by omega)
  rw [show ((15 : Nat) : Int) = 15 from rfl] at this
  rw [this, Nat.and_two_pow_sub_one_eq_mod u 4]
theorem hexDigits_big (u : Nat) (h : 16 ≤ u) : hexDigits u = hexDigits (u / 16) ++ [hexd (u % 16)] := by
  conv => lhs; rw [hexDigits, dif_neg (by omega)]
theorem hexDigits_small (u : Nat) (h : u < 16) : hexDigits u = [hexd u] := by rw [hexDigits, dif_pos h]
set_option maxRecDepth 100000 in
theorem formatBits (u0 : Nat) (hu : u0 < 4294967296) (w : World) (h : w.cell? ⟨6, 15, none⟩ = some (.int .u8 4)) :
    Calls Tryz.prog 97 #[.slice none 0 0, .int .u64 u0, .int .i64 16, .bool false, .bool false] w fun e w' => e = .returned (.tuple #[.slice none 0 0, .string ⟨(hexDigits u0).toArray⟩]) ∧ Below w.heap.size w w' := by
  have h' : ∀ o, (w.alloc o).cell? ⟨6, 15, none⟩ = some (.int .u8 4) := fun o => cell?_alloc_old o h
  go_enter Tryz.func97, Tryz.ntmps97
  go_wp2_with (first
    | (go_at_call 115; refine (ispow _).mono ?_; rintro e w' ⟨rfl, rfl⟩)
    | (go_at_call 116; refine (tz _ (h' _)).mono ?_; rintro e w' ⟨rfl, rfl⟩))
  go_loopg [1, 13] 65 (fun g vu vi wr => ∃ (u i : Nat) (ds : List UInt8), Hid (g = i) ∧ vu = .int .u64 (u : Int) ∧ vi = .int .i64 (i : Int) ∧ wr = w.alloc (.cells (rowc i ds) 138) ∧ u < 4294967296 ∧ Hid (i + ds.length = 65) ∧ Hid (hexDigits u0 = hexDigits u ++ ds) ∧ Hid ((hexDigits u).length + 57 ≤ i))
  case atStart => exact ⟨u0, 65, [], Lib.hid rfl, rfl, rfl, rfl, hu, Lib.hid rfl, Lib.hid (by simp), Lib.hid (by have := hexDigits_len 7 u0 (by simpa using hu); omega)⟩
  case round =>
    obtain ⟨u, i, ds, hg, rfl, rfl, rfl, hu1, hi, hd, hl⟩ := hrel
    obtain ⟨j, rfl⟩ : ∃ j, i = j + 1 := ⟨i - 1, by have := hl.out; omega⟩
    have e1 : ((j + 1 : Nat) : Int) - 1 = (j : Int) := by omega
    have hc : (w.alloc (.cells (rowc (j + 1) ds) 138)).cell? ⟨w.heap.size, j, none⟩ = some (.int .u8 0) := rowc_cell w 138 j ds
    have hj65 : j < 65 := by have := hi.out; omega
    by_cases hb : 16 ≤ u
    · have hbi : (16 : Int) ≤ (u : Int) := by omega
      have hand : bits BinOp.and IntKind.u64 (u : Int) 15 = ((u % 16 : Nat) : Int) := and15 u hu1
      have hm : u % 16 < 16 := Nat.mod_lt _ (by decide)
      go_wp2_with (simp only [e1, hand])
      rw [dig (u % 16) hm, rowc_set]
      go_roundg (gk - 1)
      case measure => have := hg.out; omega
      case rel =>
        have hb' := hexDigits_big u hb
        refine ⟨u / 16, j, hexd (u % 16) :: ds, Lib.hid (by have := hg.out; omega), by rw [Int.natCast_ediv]; rfl, rfl, rfl, by omega, Lib.hid (by have := hi.out; simp only [List.length_cons]; omega), Lib.hid ?_, Lib.hid ?_⟩
        · rw [hd.out, hb', List.append_assoc]; rfl
        · have := hl.out; rw [hb', List.length_append, List.length_singleton] at this; omega
    · have hbi : ¬ (16 : Int) ≤ (u : Int) := by omega
      have hm : u < 16 := by omega
      have hcv : ∀ c, (convert 22 9 (.slice (some ⟨w.heap.size, j, none⟩) (65 - j) c)).run Tryz.prog (w.alloc (.cells (rowc j (hexd u :: ds)) 138)) = .ok (.string ⟨(hexDigits u0).toArray⟩) (w.alloc (.cells (rowc j (hexd u :: ds)) 138)) := by
        intro c
        have e := run_convert_bytes_back (P := Tryz.prog) (w.alloc (.cells (rowc j (hexd u :: ds)) 138)) 22 9 5 ⟨w.heap.size, j, none⟩ c (hexd u :: ds) Tryz.underlying22 Tryz.underlying5 Tryz.underlying9 (fun q hq => by
          rw [Lib.add_plain]
          exact rowc_at w 138 j (hexd u :: ds) q hq)
        rw [show (hexd u :: ds).length = 65 - j by have := hi.out; simp only [List.length_cons]; omega] at e
        rw [e, hd.out, hexDigits_small u hm]
        rfl
      have hsl : ∀ W, (Instr.sliceAt 138 (.pointer (some ⟨w.heap.size, 0, none⟩)) (some (.int .i64 (j : Int))) none none).run Tryz.prog W = .ok (.slice (some ⟨w.heap.size, j, none⟩) (65 - j) (65 - j)) W := by
        intro W
        have hal : Tryz.prog.arrayLen 138 = 65 := by simp [Program.arrayLen, Tryz.underlying138]
        rw [run_sliceAt_array_l W 138 ⟨w.heap.size, 0, none⟩ (by simp [Program.arrayLen, Program.elem, Tryz.underlying138]) .i64 (j : Int) (by omega) (by rw [hal]; omega)]
        go_simp
        intro e0; omega
      have HCV := Lib.hid hcv
      clear hcv
      go_wp2_with (first | (simp only [e1]) | (simp only [hsl]))
      rw [dig u hm, rowc_set, HCV.out]
      simp only [Result.andThen]
      rw [Oper.upon_value]
      go_wp2
      go_ret2
      exact ⟨rfl, below_alloc (Below.refl _ _) _⟩
theorem formatInt42 (u0 : Nat) (hu : u0 < 4294967296) (w : World) (h : w.cell? ⟨6, 15, none⟩ = some (.int .u8 4)) :
    Calls Tryz.prog 84 #[.int .i64 u0, .int .i64 16] w fun e w' => e = .returned (.string ⟨(hexDigits u0).toArray⟩) ∧ Below w.heap.size w w' := by
  have hn : ¬ (u0 : Int) < 0 := by omega
  go_enter Tryz.func84, Tryz.ntmps84
  go_wp2_with (go_at_call 97; refine (formatBits u0 hu _ h).mono ?_; rintro e w' ⟨rfl, hb⟩)
  go_ret
  exact ⟨rfl, hb⟩
theorem formatHex (u0 : Nat) (hu : u0 < 4294967296) (w : World) (h : w.cell? ⟨6, 15, none⟩ = some (.int .u8 4)) :
    Calls Tryz.prog 73 #[.int .i64 u0, .int .i64 16] w fun e w' => e = .returned (.string ⟨(hexDigits u0).toArray⟩) ∧ Below w.heap.size w w' := by
  go_enter Tryz.func73, Tryz.ntmps73
  go_wp2_with (go_at_call 84; refine (formatInt42 u0 hu _ h).mono ?_; rintro e w' ⟨rfl, hb⟩)
  go_ret
  exact ⟨rfl, hb⟩
end Go.Proofs.YtpfjcfhgckpjmaaGreatDoor.Hx
