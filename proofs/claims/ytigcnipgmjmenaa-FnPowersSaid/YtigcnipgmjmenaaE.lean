/- Walks: powers of e; what the input chooses. -/
import Derived.Test.YtigcnipgmjmenaaL3
import Derived.Test.YtigcnipgmjmenaaEt
import Derived.Test.YtigcnipgmjmenaaRw
namespace Go.Proofs.Ytigcnipgmjmenaa
open Go.Fl Go.RowKit Ieee
set_option exponentiation.threshold 3000
set_option linter.unusedVariables false
set_option linter.unusedSimpArgs false

set_option maxRecDepth 100000 in
set_option maxHeartbeats 2000000 in
theorem implExp (b : Nat) (hb : b < 4294967296) (hf : single.rungOf b < single.infRung) (h1 : cmpV .gtr .f32 (some b) (some 1128792064) = false) (h2 : cmpV .lss .f32 (some b) (some 3276275712) = false)
    (hok : NarrowOk (expF (wideN b))) (w : World) : Calls Try.prog 29 #[.float .f32 b] w (Post32 (narrow (expF (wideN b))) w) := by
  have hx : Is .f32 b (some b) := (Is.of_lt hb).trans' (val_num (k := .f32) (nan_of_fin .f32 hf))
  have HW : Hid (widen (some b) = some (wideN b)) := rfl
  obtain ⟨-, k2, k3, -, -⟩ := wideN_fin hf
  have hwi : Is .f64 (wideN b) (some (wideN b)) := Is.fin k3 k2
  have H1 := Lib.hid h1
  have H2 := Lib.hid h2
  have HOK := Lib.hid hok
  obtain ⟨T, hT⟩ : ∃ T, T = fop .quo .f64 (some (wideN b)) (some c256) := ⟨_, rfl⟩
  obtain ⟨V, hV⟩ : ∃ V, V = expF (wideN b) := ⟨_, rfl⟩
  have HV : Hid (V = sqI (expI T 12) 8) := by rw [hV, hT]; exact rfl
  rw [← hV] at HOK ⊢
  have HT := Lib.hid hT
  clear h1 h2 hok hf k2 k3 hT hV hb
  go_enter Try.func29, Try.ntmps29
  go_wp2_with (first | (refine wpList_cmd _ _ _ _ _ rfl rfl rfl _ _ _ rfl rfl (by first | with_reducible assumption | exact Is.const64 (by decide +kernel) | exact Is.const32 (by decide +kernel)) (by first | with_reducible assumption | exact Is.const64 (by decide +kernel) | exact Is.const32 (by decide +kernel)) H1.out ?_) | (refine wpList_cmd _ _ _ _ _ rfl rfl rfl _ _ _ rfl rfl (by first | with_reducible assumption | exact Is.const64 (by decide +kernel) | exact Is.const32 (by decide +kernel)) (by first | with_reducible assumption | exact Is.const64 (by decide +kernel) | exact Is.const32 (by decide +kernel)) H2.out ?_) | (refine wpList_wi _ _ _ rfl rfl _ rfl (by kernel_rfl) (by kernel_rfl) (by assumption) ?_; intro r n hr; rw [HW.out] at hr; obtain ⟨rfl, -⟩ := hr.some; clear hr) | (refine wpList_ar _ _ _ _ _ rfl rfl rfl _ _ _ rfl rfl (by first | with_reducible assumption | exact Is.const64 (by decide +kernel) | exact Is.const32 (by decide +kernel)) (by first | with_reducible assumption | exact Is.const64 (by decide +kernel) | exact Is.const32 (by decide +kernel)) ?_; intro r n hr; (try rw [← HT.out] at hr)))
  go_loopg [4, 5] 13 (fun g vp vk wr => ∃ (i pv kv n : Nat), Hid (g + i = 13) ∧ i ≤ 12 ∧ vk = .float .f64 kv ∧ Is .f64 kv (some (kb (12 - i))) ∧ vp = .float .f64 pv ∧ Is .f64 pv (expI T i) ∧ wr = w.drewN n)
  case atStart => exact ⟨0, _, _, _, Lib.hid rfl, by omega, rfl, (by rw [show 12 - 0 = 12 from rfl, kb_12]; exact Is.const64 (by decide +kernel)), rfl, Is.const64 (by decide +kernel), rfl⟩
  case round =>
    obtain ⟨i, pv, kv, n, hgi, hi, rfl, hk, rfl, hp, rfl⟩ := hrel
    by_cases h1 : 1 ≤ 12 - i
    · have HK := Lib.hid ((kb12_geV (12 - i) (by omega)).trans (decide_eq_true h1))
      go_wp2_with (first | (refine wpList_cmd _ _ _ _ _ rfl rfl rfl _ _ _ rfl rfl (by first | with_reducible assumption | exact Is.const64 (by decide +kernel) | exact Is.const32 (by decide +kernel)) (by first | with_reducible assumption | exact Is.const64 (by decide +kernel) | exact Is.const32 (by decide +kernel)) HK.out ?_) | (refine wpList_ar _ _ _ _ _ rfl rfl rfl _ _ _ rfl rfl (by first | with_reducible assumption | exact Is.const64 (by decide +kernel) | exact Is.const32 (by decide +kernel)) (by first | with_reducible assumption | exact Is.const64 (by decide +kernel) | exact Is.const32 (by decide +kernel)) ?_; intro r n hr))
      go_roundg (gk - 1)
      case measure => have := hgi.out; omega
      case rel => exact ⟨i + 1, _, _, _, Lib.hid (by have := hgi.out; omega), by omega, rfl, (by rw [show 12 - (i + 1) = 12 - i - 1 by omega, ← kb12_downV (12 - i) (by omega) h1]; assumption), rfl, (by show Is .f64 _ (fop .add .f64 (some c1) (fop .quo .f64 (fop .mul .f64 T (expI T i)) (some (kb (12 - i))))); assumption), rfl⟩
    · have HK := Lib.hid ((kb12_geV (12 - i) (by omega)).trans (decide_eq_false h1))
      obtain rfl : i = 12 := by omega
      clear h1
      obtain ⟨E, hE⟩ : ∃ E, E = expI T 12 := ⟨_, rfl⟩
      rw [← hE] at hp
      have HE := Lib.hid hE
      clear hE
      go_wp2_with (first | (refine wpList_cmd _ _ _ _ _ rfl rfl rfl _ _ _ rfl rfl (by first | with_reducible assumption | exact Is.const64 (by decide +kernel) | exact Is.const32 (by decide +kernel)) (by first | with_reducible assumption | exact Is.const64 (by decide +kernel) | exact Is.const32 (by decide +kernel)) HK.out ?_))
      go_loopg [4, 27] 9 (fun g vp vc wr => ∃ (i pv n : Nat), Hid (g + i = 9) ∧ i ≤ 8 ∧ vc = .int .i64 (i : Int) ∧ vp = .float .f64 pv ∧ Is .f64 pv (sqI E i) ∧ wr = w.drewN n)
      case atStart => exact ⟨0, _, _, Lib.hid rfl, by omega, rfl, rfl, (by show Is .f64 _ E; assumption), rfl⟩
      case round =>
        obtain ⟨i, pv, n, hgi, hi, rfl, rfl, hp, rfl⟩ := hrel
        by_cases h3 : (i : Int) < 8
        · go_wp2_with (first | (refine wpList_ar _ _ _ _ _ rfl rfl rfl _ _ _ rfl rfl (by first | with_reducible assumption | exact Is.const64 (by decide +kernel) | exact Is.const32 (by decide +kernel)) (by first | with_reducible assumption | exact Is.const64 (by decide +kernel) | exact Is.const32 (by decide +kernel)) ?_; intro r n hr))
          go_roundg (gk - 1)
          case measure => have := hgi.out; omega
          case rel => exact ⟨i + 1, _, _, Lib.hid (by have := hgi.out; omega), by omega, (by congr 1), rfl, (by show Is .f64 _ (fop .mul .f64 (sqI E i) (sqI E i)); assumption), rfl⟩
        · obtain rfl : i = 8 := by omega
          clear h3
          have hp' : Is .f64 pv V := by rw [HV.out, ← HE.out]; exact hp
          clear hp
          go_wp2_with (first | (refine wpList_na _ _ _ rfl rfl _ rfl (by kernel_rfl) (by kernel_rfl) (by assumption) HOK.out ?_; intro r n hr))
          go_ret
          exact Post32.mk (by assumption)

theorem ret_int {k : IntKind} {a b : Int} (h : a = b) : Ending.returned (.int k a) = .returned (.int k b) := by rw [h]

theorem expT (k : Nat) (h : k < 129) (w : World) : Calls Try.prog 29 #[.float .f32 (sT k)] w (Post32 (some (cT k)) w) := by
  obtain ⟨h1, h2, h3, h4, h5⟩ := sT_ok k h
  obtain ⟨h6, h7⟩ := pow_is h
  rw [← h7]
  exact implExp _ h2 h3 h4 h5 h6 w

theorem logT (k : Nat) (h : k < 65) (w : World) : Calls Try.prog 33 #[.float .f32 (cT (k + 32))] w (Post32 (some (lT k)) w) := by
  rw [← lT_eq k h]
  exact implLog33 _ (cT_ok _ (by omega)).2.1 w

theorem exp0 (w : World) : Calls Try.prog 29 #[.float .f32 0] w (Post32 (some 1065353216) w) := by
  have h := expT 64 (by omega) w
  rw [sT_zero, cT_one] at h
  exact h
theorem log1 (w : World) : Calls Try.prog 33 #[.float .f32 1065353216] w (Post32 (some 0) w) := by
  have h := implLog33 1065353216 (by omega) w
  rw [log_one] at h
  exact h
theorem widen_s (b : Nat) : widen (some b) = some (wideN b) := rfl
theorem fI32 : ∀ z : Nat, z < 65 → Is .f32 (floatOfInt .f32 ((z : Int) - 32)) (some (floatOfInt .f32 ((z : Int) - 32))) := by
  unfold Is
  decide +kernel
theorem sQ (z : Nat) (h : z < 65) : fop .quo .f32 (some (floatOfInt .f32 ((z : Int) - 32))) (some 1090519040) = some (sT (z + 32)) := by
  have := sT_eq (z + 32) (by omega)
  unfold sV at this
  rwa [show ((z + 32 : Nat) : Int) - 64 = (z : Int) - 32 by omega] at this
theorem sIs (k : Nat) (h : k < 129) : Is .f32 (sT k) (some (sT k)) := Is.const32 ⟨(sT_ok k h).1, (sT_ok k h).2.1⟩
theorem eq_one : cmpV .eql .f32 (some 1065353216) (some 1065353216) = true := by decide +kernel
theorem eq_zero : cmpV .eql .f32 (some 0) (some 0) = true := by decide +kernel

theorem gap32 (a b : Nat) (u v : Option Nat) (ha : Is .f64 a u) (hb : Is .f64 b v) (w : World) : Calls Try.prog 32 #[.float .f64 a, .float .f64 b] w (Post64 (gapV u v) w) := by
  unfold gapV
  obtain ⟨c, hc⟩ : ∃ c, cmpV .lss .f64 u v = c := ⟨_, rfl⟩
  rw [hc]
  have HC := Lib.hid hc
  clear hc
  cases c
  all_goals
    simp only [if_true, Bool.false_eq_true, if_false]
    go_enter Try.func32, Try.ntmps32
    go_wp2_with (first | (refine wpList_cmd _ _ _ _ _ rfl rfl rfl _ _ _ rfl rfl (by first | with_reducible assumption | exact Is.const64 (by decide +kernel) | exact Is.const32 (by decide +kernel)) (by first | with_reducible assumption | exact Is.const64 (by decide +kernel) | exact Is.const32 (by decide +kernel)) HC.out ?_) | (refine wpList_ar _ _ _ _ _ rfl rfl rfl _ _ _ rfl rfl (by first | with_reducible assumption | exact Is.const64 (by decide +kernel) | exact Is.const32 (by decide +kernel)) (by first | with_reducible assumption | exact Is.const64 (by decide +kernel) | exact Is.const32 (by decide +kernel)) ?_; intro r n hr))
    go_ret
    exact Post64.mk (by assumption)

/-- A choice of an input below 65. -/
def AtPost (w : World) (e : Ending) (w' : World) : Prop := ∃ z : Nat, z < 65 ∧ e = .returned (.int .i64 (z : Int)) ∧ ∃ n, w' = w.drewN n

theorem at31 (a : Option Addr) (len cap : Nat) (zs : List Int) (w : World) (h : IsRow .u8 w a len cap zs) :
    Calls Try.prog 31 #[.slice a len cap, .int .i64 0, .int .i64 65] w (AtPost w) := by
  obtain ⟨hl, hll, hm⟩ := h.len
  unfold maxLen at hm
  rcases h with ⟨rfl, rfl, rfl, rfl⟩ | ⟨x, rfl, h1, h2, h3, h4, h5⟩
  · go_enter Try.func31, Try.ntmps31
    go_wp2
    go_ret
    exact ⟨11, by omega, rfl, 0, rfl⟩
  · by_cases h0 : len = 0
    · subst h0
      go_enter Try.func31, Try.ntmps31
      go_wp2
      go_ret
      exact ⟨11, by omega, rfl, 0, rfl⟩
    · have hc := h4 0 (by omega)
      have hw := h5 (zs.getD 0 0) (by
        rw [List.getD_eq_getElem?_getD, List.getElem?_eq_getElem (by omega)]
        simp)
      obtain ⟨z, hz⟩ : ∃ z, z = zs.getD 0 0 := ⟨_, rfl⟩
      rw [← hz] at hc hw
      obtain ⟨p1, p2⟩ := Bool.and_eq_true_iff.1 (show (decide (IntKind.u8.min ≤ z) && decide (z ≤ IntKind.u8.max)) = true from hw)
      have hz0 : 0 ≤ z ∧ z ≤ 255 := ⟨of_decide_eq_true p1, of_decide_eq_true p2⟩
      clear p1 p2
      have hc2 : w.cell? x = some (.int .u8 z) := by simpa [Addr.add] using hc
      have hlt : (0 : Int) < len := by omega
      have hlt2 : 0 < len := by omega
      clear h2 h3 h4 h5 h0 hl hz hw
      go_enter Try.func31, Try.ntmps31
      go_wp2
      go_ret
      exact ⟨(z % 65).toNat, by omega, ret_int (show z % 65 = _ by omega), 0, rfl⟩
theorem long30 (a1 : Option Addr) (len1 cap1 : Nat) (a2 : Option Addr) (len2 cap2 : Nat) (h1 : len1 ≤ maxLen) (h2 : len2 ≤ maxLen) (w : World) :
    Calls Try.prog 30 #[.slice a1 len1 cap1, .slice a2 len2 cap2] w fun e w' => e = .returned (.bool (decide (1048576 < len1) || decide (1048576 < len2))) ∧ w = w' := by
  unfold maxLen at h1 h2
  by_cases c1 : 1048576 < len1
  · go_enter Try.func30, Try.ntmps30
    go_wp2
    go_ret
    exact ⟨by simp [c1], rfl⟩
  · by_cases c2 : 1048576 < len2
    · go_enter Try.func30, Try.ntmps30
      go_wp2
      go_ret
      exact ⟨by simp [c1, c2]; omega, rfl⟩
    · go_enter Try.func30, Try.ntmps30
      go_wp2
      go_ret
      exact ⟨by simp [c1, c2]; omega, rfl⟩

theorem powers_yes (a0 : Option Addr) (len0 cap0 : Nat) (z0 : List Int) (a1 : Option Addr) (len1 cap1 : Nat) (z1 : List Int) (w : World) (h0 : IsRow .u8 w a0 len0 cap0 z0) (h1 : IsRow .u8 w a1 len1 cap1 z1)
    (hl : (decide (1048576 < len0) || decide (1048576 < len1)) = true) :
    Calls Try.prog 8 #[.slice a0 len0 cap0, .slice a1 len1 cap1] w fun e w' => e = .returned (.bool true) ∧ Below w.heap.size w w' := by
  have c0 := long30 a0 len0 cap0 a1 len1 cap1 (by have := h0.len; omega) (by have := h1.len; omega)
  rw [hl] at c0
  have C0 := Lib.hid c0
  clear c0 h0 h1 hl
  go_enter Try.func8, Try.ntmps8
  go_wp2_with (first | (go_at_call 30; refine (C0.out _).mono ?_; rintro e w' ⟨rfl, rfl⟩))
  go_ret
  exact ⟨rfl, Below.refl _ _⟩

theorem IsRow.drew {k : IntKind} {w : World} {a : Option Addr} {len cap : Nat} {zs : List Int} (h : IsRow k w a len cap zs) (n : Nat) : IsRow k (w.drewN n) a len cap zs := by
  rcases h with h | ⟨x, h1, h2, h3, h4, h5, h6⟩
  · exact .inl h
  · exact .inr ⟨x, h1, h2, h3, h4, fun i hi => by rw [← h5 i hi]; go_simp, h6⟩

set_option maxRecDepth 100000 in
set_option maxHeartbeats 2000000 in
theorem powers_no (a0 : Option Addr) (len0 cap0 : Nat) (z0 : List Int) (a1 : Option Addr) (len1 cap1 : Nat) (z1 : List Int) (w : World) (h0 : IsRow .u8 w a0 len0 cap0 z0) (h1 : IsRow .u8 w a1 len1 cap1 z1)
    (hl : (decide (1048576 < len0) || decide (1048576 < len1)) = false) :
    Calls Try.prog 8 #[.slice a0 len0 cap0, .slice a1 len1 cap1] w fun e w' => e = .returned (.bool true) ∧ Below w.heap.size w w' := by
  have c0 := long30 a0 len0 cap0 a1 len1 cap1 (by have := h0.len; omega) (by have := h1.len; omega)
  rw [hl] at c0
  have C0 := Lib.hid c0
  have HR0 := Lib.hid h0
  have HR1 := Lib.hid h1
  clear c0 h0 h1 hl
  go_enter Try.func8, Try.ntmps8
  go_wp2_with (first | (go_at_call 30; refine (C0.out _).mono ?_; rintro e w' ⟨rfl, rfl⟩) | (go_at_call 31; ((with_reducible refine (at31 a0 len0 cap0 z0 _ HR0.out).mono ?_); rintro e w' ⟨zx, hzx, rfl, nx, rfl⟩); have hix := fI32 zx hzx; have HX := Lib.hid (sQ zx hzx); have hsx := sIs (zx + 32) (by omega)) | (go_at_call 31; ((with_reducible refine (at31 a1 len1 cap1 z1 _ (IsRow.drew HR1.out _)).mono ?_); rintro e w' ⟨zy, hzy, rfl, ny, rfl⟩); have hiy := fI32 zy hzy; have HY := Lib.hid (sQ zy hzy); have hsy := sIs (zy + 32) (by omega); have HS := Lib.hid (sum_ok zx hzx zy hzy); have hss := sIs (zx + zy) (by omega); have G1 := Lib.hid (gap_log zx hzx); have G2 := Lib.hid (gap_pow zx hzx zy hzy); have G3 := Lib.hid (cT_ok (zx + 32) (by omega)).2.2.2; have G4 := Lib.hid eq_one; have G5 := Lib.hid eq_zero) | (go_at_call 29; ((with_reducible refine (expT (zx + 32) (by omega) _).mono ?_); rintro e w' ⟨r, n, rfl, hr, rfl⟩; have hre := hr.some.1; subst hre)) | (go_at_call 29; ((with_reducible refine (expT (zy + 32) (by omega) _).mono ?_); rintro e w' ⟨r, n, rfl, hr, rfl⟩; have hre := hr.some.1; subst hre)) | (go_at_call 29; ((with_reducible refine (expT (zx + zy) (by omega) _).mono ?_); rintro e w' ⟨r, n, rfl, hr, rfl⟩; have hre := hr.some.1; subst hre)) | (go_at_call 33; ((with_reducible refine (logT zx hzx _).mono ?_); rintro e w' ⟨r, n, rfl, hr, rfl⟩; have hre := hr.some.1; subst hre)) | (go_at_call 33; ((with_reducible refine (log1 _).mono ?_); rintro e w' ⟨r, n, rfl, hr, rfl⟩; have hre := hr.some.1; subst hre)) | (go_at_call 29; ((with_reducible refine (exp0 _).mono ?_); rintro e w' ⟨r, n, rfl, hr, rfl⟩; have hre := hr.some.1; subst hre)) | (refine wpList_wi _ _ _ rfl rfl _ rfl (by kernel_rfl) (by kernel_rfl) (by with_reducible assumption) ?_; intro r n hr; rw [widen_s] at hr; have hre := hr.some.1; subst hre) | (go_at_call 32; ((with_reducible refine (gap32 _ _ _ _ (by with_reducible assumption) (by with_reducible assumption) _).mono ?_); rintro e w' ⟨r, n, rfl, hr, rfl⟩)) | (refine wpList_cmd _ _ _ _ _ rfl rfl rfl _ _ _ rfl rfl (by first | with_reducible assumption | exact Is.const64 (by decide +kernel) | exact Is.const32 (by decide +kernel)) (by first | with_reducible assumption | exact Is.const64 (by decide +kernel) | exact Is.const32 (by decide +kernel)) G1.out ?_) | (refine wpList_cmd _ _ _ _ _ rfl rfl rfl _ _ _ rfl rfl (by first | with_reducible assumption | exact Is.const64 (by decide +kernel) | exact Is.const32 (by decide +kernel)) (by first | with_reducible assumption | exact Is.const64 (by decide +kernel) | exact Is.const32 (by decide +kernel)) G2.out ?_) | (refine wpList_cmd _ _ _ _ _ rfl rfl rfl _ _ _ rfl rfl (by first | with_reducible assumption | exact Is.const64 (by decide +kernel) | exact Is.const32 (by decide +kernel)) (by first | with_reducible assumption | exact Is.const64 (by decide +kernel) | exact Is.const32 (by decide +kernel)) G3.out ?_) | (refine wpList_cmd _ _ _ _ _ rfl rfl rfl _ _ _ rfl rfl (by first | with_reducible assumption | exact Is.const64 (by decide +kernel) | exact Is.const32 (by decide +kernel)) (by first | with_reducible assumption | exact Is.const64 (by decide +kernel) | exact Is.const32 (by decide +kernel)) G4.out ?_) | (refine wpList_cmd _ _ _ _ _ rfl rfl rfl _ _ _ rfl rfl (by first | with_reducible assumption | exact Is.const64 (by decide +kernel) | exact Is.const32 (by decide +kernel)) (by first | with_reducible assumption | exact Is.const64 (by decide +kernel) | exact Is.const32 (by decide +kernel)) G5.out ?_) | (refine wpList_ar _ _ _ _ _ rfl rfl rfl _ _ _ rfl rfl (by first | with_reducible assumption | exact Is.const64 (by decide +kernel) | exact Is.const32 (by decide +kernel)) (by first | with_reducible assumption | exact Is.const64 (by decide +kernel) | exact Is.const32 (by decide +kernel)) ?_; intro r n hr; (try (first | rw [HX.out] at hr | rw [HY.out] at hr | rw [HS.out] at hr); have hre := hr.some.1; subst hre)))
  go_ret
  exact ⟨rfl, below_drewN (Below.refl _ _) _⟩

theorem powersWalk (a0 : Option Addr) (len0 cap0 : Nat) (z0 : List Int) (a1 : Option Addr) (len1 cap1 : Nat) (z1 : List Int) (w : World) (h0 : IsRow .u8 w a0 len0 cap0 z0) (h1 : IsRow .u8 w a1 len1 cap1 z1) :
    Calls Try.prog 8 #[.slice a0 len0 cap0, .slice a1 len1 cap1] w fun e w' => e = .returned (.bool true) ∧ Below w.heap.size w w' := by
  cases hl : (decide (1048576 < len0) || decide (1048576 < len1)) with
  | true => exact powers_yes a0 len0 cap0 z0 a1 len1 cap1 z1 w h0 h1 hl
  | false => exact powers_no a0 len0 cap0 z0 a1 len1 cap1 z1 w h0 h1 hl
end Go.Proofs.Ytigcnipgmjmenaa
