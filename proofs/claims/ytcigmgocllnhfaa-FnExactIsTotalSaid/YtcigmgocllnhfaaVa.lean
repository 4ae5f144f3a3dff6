/- Walks: is a rule valid? The reference's text, over a pointer. -/
import Derived.Test.YtcigmgocllnhfaaChecked
import Derived.Test.YtcigmgocllnhfaaWMore
import Derived.WalkSmall
import Derived.Below
import Derived.Outline
import Derived.Lib.Hide
import Derived.Deep.LoopGhost
import Derived.Deep.QuietTactic
import Derived.BigQuiet
import Derived.IntWalk
namespace Go.Proofs.Ytcigmgocllnhfaa.Va
open Go.RowKit Go.Proofs.YtcigmgocllnhfaaW.PrintWords Go.Proofs.YtcigmgocllnhfaaW.PrintLast Go.Proofs.YtcigmgocllnhfaaW.PrintMore
set_option linter.unusedVariables false
set_option linter.unusedSimpArgs false

theorem quietA {P : Program} {f : FuncId} {args : Array Value} {w : World} {a n : Nat} {v : Value} (c : ∀ W : World, Calls P f args W fun e w' => e = .returned v ∧ w' = W) :
    Calls P f args (w.drewN (a + n)) fun e w'' => e = .returned v ∧ ∃ m, w'' = w.drewN (a + m) := (c _).mono fun _ _ h => ⟨h.1, n, h.2⟩

theorem ret_int {k : IntKind} {a b : Int} (h : a = b) : Ending.returned (.int k a) = .returned (.int k b) := by rw [h]

theorem in64 (a b c : Int) (r : Bool) (h : decide (b ≤ a ∧ a ≤ c) = r) (w : World) : Calls Try.prog 64 #[.int .i64 a, .int .i64 b, .int .i64 c] w fun e w' => e = .returned (.bool r) ∧ w' = w := by
  by_cases h1 : b ≤ a
  · by_cases h2 : a ≤ c
    · obtain rfl : r = true := by rw [← h]; exact decide_eq_true ⟨h1, h2⟩
      clear h
      go_enter Try.func64, Try.ntmps64
      go_wp2
      go_ret
      exact ⟨by first | rfl | simp [h2], rfl⟩
    · obtain rfl : r = false := by rw [← h]; exact decide_eq_false (fun h => h2 h.2)
      clear h
      go_enter Try.func64, Try.ntmps64
      go_wp2
      go_ret
      exact ⟨by first | rfl | simp [h2], rfl⟩
  · obtain rfl : r = false := by rw [← h]; exact decide_eq_false (fun h => h1 h.1)
    clear h
    go_enter Try.func64, Try.ntmps64
    go_wp2
    go_ret
    exact ⟨by first | rfl | simp, rfl⟩

/-- x to the power n, x being 2 or 3 and n at most 5. -/
theorem pow85 (x : Int) (hx : x = 2 ∨ x = 3) (m : Nat) (hm : m ≤ 5) (w : World) : Calls Try.prog 85 #[.int .i64 x, .int .i64 (m : Int)] w fun e w' => e = .returned (.int .i64 (x ^ m)) ∧ w' = w := by
  have hb : ∀ j : Nat, j ≤ 5 → 0 ≤ x ^ j ∧ x ^ j ≤ 243 := by
    intro j hj
    have : j = 0 ∨ j = 1 ∨ j = 2 ∨ j = 3 ∨ j = 4 ∨ j = 5 := by omega
    rcases hx with rfl | rfl <;> rcases this with rfl | rfl | rfl | rfl | rfl | rfl <;> decide
  have HB := Lib.hid hb
  clear hb
  rcases hx with rfl | rfl
  · go_enter Try.func85, Try.ntmps85
    go_wp2
    go_loopg [1, 5] 6 (fun g v1 v5 wr => ∃ (j : Nat) (p : Int), j ≤ m ∧ Hid (g + j = 6) ∧ v1 = .int .i64 ((m : Int) - j) ∧ v5 = .int .i64 p ∧ Hid (p = 2 ^ j) ∧ 0 ≤ p ∧ p ≤ 243 ∧ wr = w)
    case atStart => exact ⟨0, 1, by omega, Lib.hid rfl, by simp, rfl, Lib.hid rfl, by omega, by omega, rfl⟩
    case round =>
      obtain ⟨j, p, hj, hg, rfl, rfl, hp, hp0, hp1, rfl⟩ := hrel
      by_cases hlt : (0 : Int) < (m : Int) - j
      · have hn := HB.out (j + 1) (by omega)
        rw [Int.pow_succ, ← hp.out] at hn
        have hpn := Lib.hid (show p * 2 = 2 ^ (j + 1) by rw [Int.pow_succ, ← hp.out])
        go_wp2
        go_roundg (gk - 1)
        case measure => have := hg.out; omega
        case rel => exact ⟨j + 1, _, by omega, Lib.hid (by have := hg.out; omega), (by congr 1; omega), rfl, hpn, by omega, by omega, rfl⟩
      · obtain rfl : j = m := by omega
        go_wp2
        go_ret
        exact ⟨ret_int hp.out, rfl⟩
  · go_enter Try.func85, Try.ntmps85
    go_wp2
    go_loopg [1, 5] 6 (fun g v1 v5 wr => ∃ (j : Nat) (p : Int), j ≤ m ∧ Hid (g + j = 6) ∧ v1 = .int .i64 ((m : Int) - j) ∧ v5 = .int .i64 p ∧ Hid (p = 3 ^ j) ∧ 0 ≤ p ∧ p ≤ 243 ∧ wr = w)
    case atStart => exact ⟨0, 1, by omega, Lib.hid rfl, by simp, rfl, Lib.hid rfl, by omega, by omega, rfl⟩
    case round =>
      obtain ⟨j, p, hj, hg, rfl, rfl, hp, hp0, hp1, rfl⟩ := hrel
      by_cases hlt : (0 : Int) < (m : Int) - j
      · have hn := HB.out (j + 1) (by omega)
        rw [Int.pow_succ, ← hp.out] at hn
        have hpn := Lib.hid (show p * 3 = 3 ^ (j + 1) by rw [Int.pow_succ, ← hp.out])
        go_wp2
        go_roundg (gk - 1)
        case measure => have := hg.out; omega
        case rel => exact ⟨j + 1, _, by omega, Lib.hid (by have := hg.out; omega), (by congr 1; omega), rfl, hpn, by omega, by omega, rfl⟩
      · obtain rfl : j = m := by omega
        go_wp2
        go_ret
        exact ⟨ret_int hp.out, rfl⟩

theorem pow85' (x : Int) (hx : x = 2 ∨ x = 3) (y : Int) (h0 : 0 ≤ y) (h5 : y ≤ 5) (w : World) : Calls Try.prog 85 #[.int .i64 x, .int .i64 y] w fun e w' => e = .returned (.int .i64 (x ^ y.toNat)) ∧ w' = w := by
  have h := pow85 x hx y.toNat (by omega) w
  rwa [show ((y.toNat : Nat) : Int) = y by omega] at h

/-- Is a rule valid? -/
def rowB (s : Int) (l : List Int) : Bool := l.all fun x => decide (0 ≤ x ∧ x ≤ s - 1)
def validB (s c : Int) (l : List Int) : Bool := decide (2 ≤ s ∧ s ≤ 3) && (decide (0 ≤ c ∧ c ≤ 2) && (decide ((l.length : Int) = s ^ (2 * c + 1).toNat) && rowB s l))

theorem rowB_drop (s : Int) (l : List Int) (i : Nat) (h : i < l.length) : rowB s (l.drop i) = (decide (0 ≤ rd l (i : Int) ∧ rd l (i : Int) ≤ s - 1) && rowB s (l.drop (i + 1))) := by
  have e : l.drop i = rd l (i : Int) :: l.drop (i + 1) := by
    rw [List.drop_eq_getElem_cons h]
    congr 1
    unfold rd
    rw [List.getD_eq_getElem?_getD]
    simp [h]
  rw [e]
  rfl
theorem ret_bool {a b : Bool} (h : a = b) : Ending.returned (.bool a) = .returned (.bool b) := by rw [h]

theorem is74 (g : Nat) (s c : Int) (l : List Int) (A : Option Addr) (cap : Nat) (w : World) (h0 : w.cell? ⟨g, 0, none⟩ = some (.int .i64 s)) (h1 : w.cell? ⟨g, 1, none⟩ = some (.int .i64 c)) (h2 : w.cell? ⟨g, 2, none⟩ = some (.slice A l.length cap))
    (hr : Kd.C (Kd.int .i64) w A l.length l) (hc : l.length ≤ cap) (hm : l.length ≤ 140737488351232) (hs : -9223372036854775808 ≤ s ∧ s ≤ 9223372036854775807) (hcc : -9223372036854775808 ≤ c ∧ c ≤ 9223372036854775807) :
    Calls Try.prog 74 #[.pointer (some ⟨g, 0, none⟩)] w fun e w' => e = .returned (.bool (validB s c l)) ∧ ∃ n, w' = w.drewN n := by
  by_cases hS : 2 ≤ s ∧ s ≤ 3
  · by_cases hC : 0 ≤ c ∧ c ≤ 2
    · have hx : s = 2 ∨ s = 3 := by omega
      obtain ⟨P, hP⟩ : ∃ P, P = s ^ (2 * c + 1).toNat := ⟨_, rfl⟩
      have cp := fun w => pow85' s hx (2 * c + 1) (by omega) (by omega) w
      rw [← hP] at cp
      have CP := Lib.hid cp
      have HS := Lib.hid (decide_eq_true hS)
      have HC := Lib.hid (decide_eq_true hC)
      have hv : validB s c l = (decide ((l.length : Int) = P) && rowB s l) := by unfold validB; rw [decide_eq_true hS, decide_eq_true hC, ← hP]; simp
      rw [hv]
      clear hv cp hP hs hcc
      by_cases hL : (l.length : Int) = P
      · rw [decide_eq_true hL, Bool.true_and]
        have e1 : ((l.length : Int) == P) = true := by simpa using hL
        have e2 : ((l.length : Int) != P) = false := by simpa using hL
        have hs0 : 2 ≤ s := hS.1
        have hs1 : s ≤ 3 := hS.2
        have hc0 : 0 ≤ c := hC.1
        have hc1 : c ≤ 2 := hC.2
        have HR := Lib.hid hr
        have k1 : IntKind.i64.wrap (2 * c) = 2 * c := IntWalk.i64_in _ (by omega)
        have k2 : IntKind.i64.wrap (2 * c + 1) = 2 * c + 1 := IntWalk.i64_in _ (by omega)
        clear hL hS hC hr hx
        go_enter Try.func74, Try.ntmps74
        go_wp2
        go_quiet ((first | (go_at_call 64; with_reducible exact Calls.quiet_of_same (in64 s 2 3 true HS.out _)) | (go_at_call 64; with_reducible exact Calls.quiet_of_same (in64 c 0 2 true HC.out _)) | (go_at_call 85; with_reducible exact Calls.quiet_of_same (CP.out _))))
        clear k1 k2 e1 e2
        go_wp2
        go_loopg [3] (l.length + 1) (fun g vi wr => ∃ (i n : Nat), i ≤ l.length ∧ Hid (g + i = l.length + 1) ∧ vi = .int .i64 (i : Int) ∧ Hid (rowB s l = rowB s (l.drop i)) ∧ wr = w.drewN n)
        case atStart => exact ⟨0, _, by omega, Lib.hid rfl, rfl, Lib.hid rfl, rfl⟩
        case round =>
          obtain ⟨i, n, hi, hgi, rfl, hrow, rfl⟩ := hrel
          by_cases hlt : (i : Int) < (l.length : Int)
          · have hi0 : 0 ≤ (i : Int) := by omega
            obtain ⟨ad, ea, hcell⟩ := Kd.at_int HR.out (i : Int) hi0 hlt
            cases ea
            obtain ⟨x, hx⟩ : ∃ x, x = rd l (i : Int) := ⟨_, rfl⟩
            have hd := rowB_drop s l i (by omega)
            rw [← hx] at hd hcell
            have hcell2 : w.cell? (ad.add i) = some (.int .i64 x) := by simpa using hcell
            have ks : IntKind.i64.wrap (s - 1) = s - 1 := IntWalk.i64_in _ (by omega)
            cases hb : decide (0 ≤ x ∧ x ≤ s - 1) with
            | true =>
              have HX := Lib.hid hb
              have HD := Lib.hid (show rowB s l = rowB s (l.drop (i + 1)) by rw [hrow.out, hd, hb]; rfl)
              clear hb hd hx hrow
              go_wp2
              go_quiet ((go_at_call 64; with_reducible exact quietA (in64 x 0 (s - 1) true HX.out)))
              clear ks
              go_wp2
              go_roundg (gk - 1)
              case measure => have := hgi.out; omega
              case rel => exact ⟨i + 1, _, by omega, Lib.hid (by have := hgi.out; omega), (by congr 1), HD, rfl⟩
            | false =>
              have HX := Lib.hid hb
              have HD := Lib.hid (show rowB s l = false by rw [hrow.out, hd, hb]; rfl)
              clear hb hd hx hrow
              go_wp2
              go_quiet ((go_at_call 64; with_reducible exact quietA (in64 x 0 (s - 1) false HX.out)))
              clear ks
              go_wp2
              go_ret
              exact ⟨ret_bool HD.out.symm, _, World.drewN_drewN ..⟩
          · obtain rfl : i = l.length := by omega
            have HD := Lib.hid (show rowB s l = true by rw [hrow.out, List.drop_length]; rfl)
            clear hrow
            go_wp2
            go_ret
            exact ⟨ret_bool HD.out.symm, _, rfl⟩
      · rw [decide_eq_false hL, Bool.false_and]
        have e1 : ((l.length : Int) == P) = false := by simpa using hL
        have e2 : ((l.length : Int) != P) = true := by simpa using hL
        have hc0 : 0 ≤ c := hC.1
        have hc1 : c ≤ 2 := hC.2
        have k1 : IntKind.i64.wrap (2 * c) = 2 * c := IntWalk.i64_in _ (by omega)
        have k2 : IntKind.i64.wrap (2 * c + 1) = 2 * c + 1 := IntWalk.i64_in _ (by omega)
        clear hL hS hC hr hx hc hm
        go_enter Try.func74, Try.ntmps74
        go_wp2
        go_quiet ((first | (go_at_call 64; with_reducible exact Calls.quiet_of_same (in64 s 2 3 true HS.out _)) | (go_at_call 64; with_reducible exact Calls.quiet_of_same (in64 c 0 2 true HC.out _)) | (go_at_call 85; with_reducible exact Calls.quiet_of_same (CP.out _))))
        go_wp2
        go_ret
        exact ⟨rfl, _, rfl⟩
    · have hv : validB s c l = false := by unfold validB; rw [decide_eq_false hC]; simp
      rw [hv]
      have HS := Lib.hid (decide_eq_true hS)
      have HC := Lib.hid (decide_eq_false hC)
      clear hv hS hC hr hm hc
      go_enter Try.func74, Try.ntmps74
      go_wp2
      go_quiet ((first | (go_at_call 64; with_reducible exact Calls.quiet_of_same (in64 s 2 3 true HS.out _)) | (go_at_call 64; with_reducible exact Calls.quiet_of_same (in64 c 0 2 false HC.out _))))
      go_wp2
      go_ret
      exact ⟨rfl, _, rfl⟩
  · have hv : validB s c l = false := by unfold validB; rw [decide_eq_false hS]; simp
    rw [hv]
    have HS := Lib.hid (decide_eq_false hS)
    clear hv hS hr hm hc
    go_enter Try.func74, Try.ntmps74
    go_wp2
    go_quiet ((go_at_call 64; with_reducible exact Calls.quiet_of_same (in64 s 2 3 false HS.out _)))
    go_wp2
    go_ret
    exact ⟨rfl, _, rfl⟩

/-- The reference's question by value. -/
theorem val37 (s c : Int) (l : List Int) (A : Option Addr) (cap : Nat) (w : World) (hr : Kd.C (Kd.int .i64) w A l.length l) (hc : l.length ≤ cap) (hm : l.length ≤ 140737488351232)
    (hs : -9223372036854775808 ≤ s ∧ s ≤ 9223372036854775807) (hcc : -9223372036854775808 ≤ c ∧ c ≤ 9223372036854775807) :
    Calls Try.prog 37 #[.agg #[.int .i64 s, .int .i64 c, .slice A l.length cap]] w fun e w' => e = .returned (.bool (validB s c l)) ∧ Below w.heap.size w w' := by
  have CI := Lib.hid (fun W h0 h1 h2 hr => is74 w.heap.size s c l A cap W h0 h1 h2 hr hc hm hs hcc)
  have HR := Lib.hid hr
  clear hr hc hm hs hcc
  go_enter Try.func37, Try.ntmps37
  go_wp2_with (go_at_call 74; refine (CI.out _ (by go_simp) (by go_simp) (by go_simp) (Kd.C_below HR.out ((Below.refl _ _).alloc (Nat.le_refl _) _))).mono ?_; rintro e w' ⟨rfl, n, rfl⟩)
  go_ret
  exact ⟨rfl, below_drewN ((Below.refl _ _).alloc (Nat.le_refl _) _) _⟩
end Go.Proofs.Ytcigmgocllnhfaa.Va
