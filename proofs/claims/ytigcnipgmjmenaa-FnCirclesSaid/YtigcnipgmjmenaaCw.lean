/- Walks: parts, powers, products and angles of complex numbers; gaps; choices by bytes. -/
import Derived.Test.YtigcnipgmjmenaaP3
import Derived.Test.YtigcnipgmjmenaaG2
import Derived.Test.YtigcnipgmjmenaaK
import Derived.Test.YtigcnipgmjmenaaEx
import Derived.ChangeSlices
import Derived.WalkKit
set_option linter.unusedVariables false
set_option linter.unusedSimpArgs false
namespace Go
def IsRow (k : IntKind) (w : World) (a : Option Addr) (len cap : Nat) (zs : List Int) : Prop :=
  (a = none ∧ len = 0 ∧ cap = 0 ∧ zs = []) ∨
  ∃ x, a = some x ∧ len ≤ cap ∧ cap ≤ maxLen ∧ zs.length = cap ∧ (∀ i, i < zs.length → w.cell? (x.add i) = some (.int k (zs.getD i 0))) ∧ (∀ n ∈ zs, (Lit.int k n).wf = true)
theorem IsRow.len {k : IntKind} {w : World} {a : Option Addr} {len cap : Nat} {zs : List Int} (h : IsRow k w a len cap zs) : zs.length = cap ∧ len ≤ cap ∧ cap ≤ maxLen := by
  rcases h with ⟨-, rfl, rfl, rfl⟩ | ⟨x, -, h1, h2, h3, -⟩
  · exact ⟨rfl, Nat.le_refl _, Nat.zero_le _⟩
  · exact ⟨h3, h1, h2⟩
end Go

namespace Go.Proofs.Ytigcnipgmjmenaa.Cw
open Go.Fl Go.RowKit Ieee Go.Proofs.Ytigcnipgmjmenaa
theorem ret_int {k : IntKind} {a b : Int} (h : a = b) : Ending.returned (.int k a) = .returned (.int k b) := by rw [h]
def PostP (u v : Option Nat) (w : World) (e : Ending) (w' : World) : Prop := ∃ r s n, e = .returned (.tuple #[.float .f64 r, .float .f64 s]) ∧ Is .f64 r u ∧ Is .f64 s v ∧ w' = w.drewN n
theorem PostP.mk {u v : Option Nat} {w : World} {r s n : Nat} (h1 : Is .f64 r u) (h2 : Is .f64 s v) : PostP u v w (.returned (.tuple #[.float .f64 r, .float .f64 s])) (w.drewN n) := ⟨r, s, n, rfl, h1, h2, rfl⟩
theorem parts99 (p q : Nat) (u v : Option Nat) (hp : Is .f32 p u) (hq : Is .f32 q v) (w : World) : Calls Try.prog 99 #[.complex .f32 p q] w (PostP (widen u) (widen v) w) := by
  go_enter Try.func99, Try.ntmps99
  go_wp2_with (refine wpList_wi _ _ _ rfl rfl _ rfl (by kernel_rfl) (by kernel_rfl) (by assumption) ?_; intro r n hr)
  go_ret2
  exact PostP.mk (by assumption) (by assumption)
theorem times100 (a b c d : Nat) (A B C D : Option Nat) (ha : Is .f64 a A) (hb : Is .f64 b B) (hc : Is .f64 c C) (hd : Is .f64 d D) (w : World) :
    Calls Try.prog 100 #[.float .f64 a, .float .f64 b, .float .f64 c, .float .f64 d] w (PostP (fop .sub .f64 (fop .mul .f64 A C) (fop .mul .f64 B D)) (fop .add .f64 (fop .mul .f64 A D) (fop .mul .f64 B C)) w) := by
  go_enter Try.func100, Try.ntmps100
  go_wp2_with (refine wpList_ar _ _ _ _ _ rfl rfl rfl _ _ _ rfl rfl (by first | with_reducible assumption | exact Is.const64 (by decide +kernel) | exact Is.const32 (by decide +kernel)) (by first | with_reducible assumption | exact Is.const64 (by decide +kernel) | exact Is.const32 (by decide +kernel)) ?_; intro r n hr)
  go_ret2
  exact PostP.mk (by assumption) (by assumption)
theorem power97 (p q : Nat) (u v : Option Nat) (hp : Is .f32 p u) (hq : Is .f32 q v) (w : World) : Calls Try.prog 97 #[.complex .f32 p q] w (Post64 (fop .add .f64 (fop .mul .f64 (widen u) (widen u)) (fop .mul .f64 (widen v) (widen v))) w) := by
  go_enter Try.func97, Try.ntmps97
  go_wp2_with (first | (go_at_call 99; ((with_reducible refine (parts99 _ _ _ _ (by with_reducible assumption) (by with_reducible assumption) _).mono ?_); rintro e w' ⟨r, s, n, rfl, hr, hs, rfl⟩)) | (refine wpList_ar _ _ _ _ _ rfl rfl rfl _ _ _ rfl rfl (by first | with_reducible assumption | exact Is.const64 (by decide +kernel) | exact Is.const32 (by decide +kernel)) (by first | with_reducible assumption | exact Is.const64 (by decide +kernel) | exact Is.const32 (by decide +kernel)) ?_; intro r n hr))
  go_ret
  exact Post64.mk (by assumption)
theorem powerOf56 (p q : Nat) (u v : Option Nat) (hp : Is .f32 p u) (hq : Is .f32 q v) (hok : NarrowOk (fop .add .f64 (fop .mul .f64 (widen u) (widen u)) (fop .mul .f64 (widen v) (widen v)))) (w : World) :
    Calls Try.prog 56 #[.complex .f32 p q] w (Post32 (narrow (fop .add .f64 (fop .mul .f64 (widen u) (widen u)) (fop .mul .f64 (widen v) (widen v)))) w) := by
  have HOK := Lib.hid hok
  clear hok
  go_enter Try.func56, Try.ntmps56
  go_wp2_with (first | (go_at_call 97; ((with_reducible refine (power97 _ _ _ _ (by with_reducible assumption) (by with_reducible assumption) _).mono ?_); rintro e w' ⟨r, n, rfl, hr, rfl⟩)) | (refine wpList_na _ _ _ rfl rfl _ rfl (by kernel_rfl) (by kernel_rfl) (by assumption) HOK.out ?_; intro r n hr))
  go_ret
  exact Post32.mk (by assumption)
theorem mul58 (p q r s : Nat) (A B C D : Option Nat) (ha : Is .f32 p A) (hb : Is .f32 q B) (hc : Is .f32 r C) (hd : Is .f32 s D)
    (hu : NarrowOk (fop .sub .f64 (fop .mul .f64 (widen A) (widen C)) (fop .mul .f64 (widen B) (widen D)))) (hv : NarrowOk (fop .add .f64 (fop .mul .f64 (widen A) (widen D)) (fop .mul .f64 (widen B) (widen C)))) (w : World) :
    Calls Try.prog 58 #[.complex .f32 p q, .complex .f32 r s] w (PostC (narrow (fop .sub .f64 (fop .mul .f64 (widen A) (widen C)) (fop .mul .f64 (widen B) (widen D)))) (narrow (fop .add .f64 (fop .mul .f64 (widen A) (widen D)) (fop .mul .f64 (widen B) (widen C)))) w) := by
  have HU := Lib.hid hu
  have HV := Lib.hid hv
  clear hu hv
  go_enter Try.func58, Try.ntmps58
  go_wp2_with (first | (go_at_call 99; ((with_reducible refine (parts99 _ _ _ _ (by with_reducible assumption) (by with_reducible assumption) _).mono ?_); rintro e w' ⟨r, s, n, rfl, hr, hs, rfl⟩)) | (go_at_call 100; ((with_reducible refine (times100 _ _ _ _ _ _ _ _ (by with_reducible assumption) (by with_reducible assumption) (by with_reducible assumption) (by with_reducible assumption) _).mono ?_); rintro e w' ⟨r, s, n, rfl, hr, hs, rfl⟩)) | (refine wpList_na _ _ _ rfl rfl _ rfl (by kernel_rfl) (by kernel_rfl) (by assumption) (by first | exact HU.out | exact HV.out) ?_; intro r n hr))
  go_ret
  exact PostC.mk (by assumption) (by assumption)
theorem angle55 (p q u v : Nat) (hp : Is .f32 p (some u)) (hq : Is .f32 q (some v)) (w : World) : Calls Try.prog 55 #[.complex .f32 p q] w (Post32 (angS v u) w) := by
  obtain ⟨rfl, h1⟩ := hp.some
  obtain ⟨rfl, h2⟩ := hq.some
  have hc := fun W => implAngle45 q p hq.2 hp.2 W
  go_enter Try.func55, Try.ntmps55
  go_wp2_with (go_at_call 45; ((with_reducible refine (hc _).mono ?_); rintro e w' ⟨r, n, rfl, hr, rfl⟩))
  go_ret
  exact Post32.mk (by assumption)
theorem gap32 (a b : Nat) (u v : Option Nat) (ha : Is .f64 a u) (hb : Is .f64 b v) (w : World) : Calls Try.prog 32 #[.float .f64 a, .float .f64 b] w (Post64 (gapV u v) w) := by
  unfold gapV
  obtain ⟨c, hc⟩ : ∃ c, cmpV .lss .f64 u v = c := ⟨_, rfl⟩
  rw [hc]
  have HC := Lib.hid hc
  clear hc
  cases c
  all_goals
    simp only [if_true, Bool.false_eq_true, if_false]
    go_enter Try.func32, Try.ntmps32
    go_wp2_with (first | (refine wpList_cmd _ _ _ _ _ rfl rfl rfl _ _ _ rfl rfl (by first | with_reducible assumption | exact Is.const64 (by decide +kernel) | exact Is.const32 (by decide +kernel)) (by first | with_reducible assumption | exact Is.const64 (by decide +kernel) | exact Is.const32 (by decide +kernel)) HC.out ?_) | (refine wpList_ar _ _ _ _ _ rfl rfl rfl _ _ _ rfl rfl (by first | with_reducible assumption | exact Is.const64 (by decide +kernel) | exact Is.const32 (by decide +kernel)) (by first | with_reducible assumption | exact Is.const64 (by decide +kernel) | exact Is.const32 (by decide +kernel)) ?_; intro r n hr))
    go_ret
    exact Post64.mk (by assumption)
theorem near57 (p q r s m : Nat) (A B C D M : Option Nat) (ha : Is .f32 p A) (hb : Is .f32 q B) (hc : Is .f32 r C) (hd : Is .f32 s D) (hm : Is .f64 m M)
    (h1 : cmpV .leq .f64 (gapV (widen A) (widen C)) M = true) (h2 : cmpV .leq .f64 (gapV (widen B) (widen D)) M = true) (w : World) :
    Calls Try.prog 57 #[.complex .f32 p q, .complex .f32 r s, .float .f64 m] w fun e w' => e = .returned (.bool true) ∧ ∃ n, w' = w.drewN n := by
  have H1 := Lib.hid h1
  have H2 := Lib.hid h2
  clear h1 h2
  go_enter Try.func57, Try.ntmps57
  go_wp2_with (first | (refine wpList_wi _ _ _ rfl rfl _ rfl (by kernel_rfl) (by kernel_rfl) (by assumption) ?_; intro r n hr) | (go_at_call 32; ((with_reducible refine (gap32 _ _ _ _ (by with_reducible assumption) (by with_reducible assumption) _).mono ?_); rintro e w' ⟨r, n, rfl, hr, rfl⟩)) | (refine wpList_cmd _ _ _ _ _ rfl rfl rfl _ _ _ rfl rfl (by first | with_reducible assumption | exact Is.const64 (by decide +kernel) | exact Is.const32 (by decide +kernel)) (by first | with_reducible assumption | exact Is.const64 (by decide +kernel) | exact Is.const32 (by decide +kernel)) H1.out ?_) | (refine wpList_cmd _ _ _ _ _ rfl rfl rfl _ _ _ rfl rfl (by first | with_reducible assumption | exact Is.const64 (by decide +kernel) | exact Is.const32 (by decide +kernel)) (by first | with_reducible assumption | exact Is.const64 (by decide +kernel) | exact Is.const32 (by decide +kernel)) H2.out ?_))
  go_ret
  exact ⟨rfl, _, rfl⟩
/-- A choice of an input below n. -/
def AtN (m : Nat) (w : World) (e : Ending) (w' : World) : Prop := ∃ z : Nat, z < m ∧ e = .returned (.int .i64 (z : Int)) ∧ ∃ n, w' = w.drewN n

theorem at_0_256 (a : Option Addr) (len cap : Nat) (zs : List Int) (w : World) (h : IsRow .u8 w a len cap zs) :
    Calls Try.prog 31 #[.slice a len cap, .int .i64 0, .int .i64 256] w (AtN 256 w) := by
  obtain ⟨hl, hll, hm⟩ := h.len
  unfold maxLen at hm
  rcases h with ⟨rfl, rfl, rfl, rfl⟩ | ⟨x, rfl, h1, h2, h3, h4, h5⟩
  · go_enter Try.func31, Try.ntmps31
    go_wp2
    go_ret
    exact ⟨11, by omega, rfl, 0, rfl⟩
  · by_cases h0 : len ≤ 0
    · have hlt : ¬ (0 : Int) < len := by omega
      clear h2 h3 h4 h5 hl
      go_enter Try.func31, Try.ntmps31
      go_wp2
      go_ret
      exact ⟨11, by omega, rfl, 0, rfl⟩
    · have hc := h4 0 (by omega)
      have hw := h5 (zs.getD 0 0) (by
        rw [List.getD_eq_getElem?_getD, List.getElem?_eq_getElem (by omega)]
        simp)
      obtain ⟨z, hz⟩ : ∃ z, z = zs.getD 0 0 := ⟨_, rfl⟩
      rw [← hz] at hc hw
      obtain ⟨p1, p2⟩ := Bool.and_eq_true_iff.1 (show (decide (IntKind.u8.min ≤ z) && decide (z ≤ IntKind.u8.max)) = true from hw)
      have hz0 : 0 ≤ z ∧ z ≤ 255 := ⟨of_decide_eq_true p1, of_decide_eq_true p2⟩
      clear p1 p2
      have hc2 : w.cell? x = some (.int .u8 z) := by simpa [Addr.add] using hc
      have hlt : (0 : Int) < len := by omega
      have hlt2 : 0 < len := by omega
      clear h2 h3 h4 h5 h0 hl hz hw
      go_enter Try.func31, Try.ntmps31
      go_wp2
      go_ret
      exact ⟨(z % 256).toNat, by omega, ret_int (show z % 256 = _ by omega), 0, rfl⟩

theorem at_0_200 (a : Option Addr) (len cap : Nat) (zs : List Int) (w : World) (h : IsRow .u8 w a len cap zs) :
    Calls Try.prog 31 #[.slice a len cap, .int .i64 0, .int .i64 200] w (AtN 200 w) := by
  obtain ⟨hl, hll, hm⟩ := h.len
  unfold maxLen at hm
  rcases h with ⟨rfl, rfl, rfl, rfl⟩ | ⟨x, rfl, h1, h2, h3, h4, h5⟩
  · go_enter Try.func31, Try.ntmps31
    go_wp2
    go_ret
    exact ⟨11, by omega, rfl, 0, rfl⟩
  · by_cases h0 : len ≤ 0
    · have hlt : ¬ (0 : Int) < len := by omega
      clear h2 h3 h4 h5 hl
      go_enter Try.func31, Try.ntmps31
      go_wp2
      go_ret
      exact ⟨11, by omega, rfl, 0, rfl⟩
    · have hc := h4 0 (by omega)
      have hw := h5 (zs.getD 0 0) (by
        rw [List.getD_eq_getElem?_getD, List.getElem?_eq_getElem (by omega)]
        simp)
      obtain ⟨z, hz⟩ : ∃ z, z = zs.getD 0 0 := ⟨_, rfl⟩
      rw [← hz] at hc hw
      obtain ⟨p1, p2⟩ := Bool.and_eq_true_iff.1 (show (decide (IntKind.u8.min ≤ z) && decide (z ≤ IntKind.u8.max)) = true from hw)
      have hz0 : 0 ≤ z ∧ z ≤ 255 := ⟨of_decide_eq_true p1, of_decide_eq_true p2⟩
      clear p1 p2
      have hc2 : w.cell? x = some (.int .u8 z) := by simpa [Addr.add] using hc
      have hlt : (0 : Int) < len := by omega
      have hlt2 : 0 < len := by omega
      clear h2 h3 h4 h5 h0 hl hz hw
      go_enter Try.func31, Try.ntmps31
      go_wp2
      go_ret
      exact ⟨(z % 200).toNat, by omega, ret_int (show z % 200 = _ by omega), 0, rfl⟩

theorem at_1_256 (a : Option Addr) (len cap : Nat) (zs : List Int) (w : World) (h : IsRow .u8 w a len cap zs) :
    Calls Try.prog 31 #[.slice a len cap, .int .i64 1, .int .i64 256] w (AtN 256 w) := by
  obtain ⟨hl, hll, hm⟩ := h.len
  unfold maxLen at hm
  rcases h with ⟨rfl, rfl, rfl, rfl⟩ | ⟨x, rfl, h1, h2, h3, h4, h5⟩
  · go_enter Try.func31, Try.ntmps31
    go_wp2
    go_ret
    exact ⟨48, by omega, rfl, 0, rfl⟩
  · by_cases h0 : len ≤ 1
    · have hlt : ¬ (1 : Int) < len := by omega
      clear h2 h3 h4 h5 hl
      go_enter Try.func31, Try.ntmps31
      go_wp2
      go_ret
      exact ⟨48, by omega, rfl, 0, rfl⟩
    · have hc := h4 1 (by omega)
      have hw := h5 (zs.getD 1 0) (by
        rw [List.getD_eq_getElem?_getD, List.getElem?_eq_getElem (by omega)]
        simp)
      obtain ⟨z, hz⟩ : ∃ z, z = zs.getD 1 0 := ⟨_, rfl⟩
      rw [← hz] at hc hw
      obtain ⟨p1, p2⟩ := Bool.and_eq_true_iff.1 (show (decide (IntKind.u8.min ≤ z) && decide (z ≤ IntKind.u8.max)) = true from hw)
      have hz0 : 0 ≤ z ∧ z ≤ 255 := ⟨of_decide_eq_true p1, of_decide_eq_true p2⟩
      clear p1 p2
      have hc2 : w.cell? ⟨x.block, x.off + 1, none⟩ = some (.int .u8 z) := hc
      clear hc
      have hlt : (1 : Int) < len := by omega
      have hlt2 : 1 < len := by omega
      clear h2 h3 h4 h5 h0 hl hz hw
      go_enter Try.func31, Try.ntmps31
      go_wp2
      go_ret
      exact ⟨(z % 256).toNat, by omega, ret_int (show z % 256 = _ by omega), 0, rfl⟩

theorem at_1_200 (a : Option Addr) (len cap : Nat) (zs : List Int) (w : World) (h : IsRow .u8 w a len cap zs) :
    Calls Try.prog 31 #[.slice a len cap, .int .i64 1, .int .i64 200] w (AtN 200 w) := by
  obtain ⟨hl, hll, hm⟩ := h.len
  unfold maxLen at hm
  rcases h with ⟨rfl, rfl, rfl, rfl⟩ | ⟨x, rfl, h1, h2, h3, h4, h5⟩
  · go_enter Try.func31, Try.ntmps31
    go_wp2
    go_ret
    exact ⟨48, by omega, rfl, 0, rfl⟩
  · by_cases h0 : len ≤ 1
    · have hlt : ¬ (1 : Int) < len := by omega
      clear h2 h3 h4 h5 hl
      go_enter Try.func31, Try.ntmps31
      go_wp2
      go_ret
      exact ⟨48, by omega, rfl, 0, rfl⟩
    · have hc := h4 1 (by omega)
      have hw := h5 (zs.getD 1 0) (by
        rw [List.getD_eq_getElem?_getD, List.getElem?_eq_getElem (by omega)]
        simp)
      obtain ⟨z, hz⟩ : ∃ z, z = zs.getD 1 0 := ⟨_, rfl⟩
      rw [← hz] at hc hw
      obtain ⟨p1, p2⟩ := Bool.and_eq_true_iff.1 (show (decide (IntKind.u8.min ≤ z) && decide (z ≤ IntKind.u8.max)) = true from hw)
      have hz0 : 0 ≤ z ∧ z ≤ 255 := ⟨of_decide_eq_true p1, of_decide_eq_true p2⟩
      clear p1 p2
      have hc2 : w.cell? ⟨x.block, x.off + 1, none⟩ = some (.int .u8 z) := hc
      clear hc
      have hlt : (1 : Int) < len := by omega
      have hlt2 : 1 < len := by omega
      clear h2 h3 h4 h5 h0 hl hz hw
      go_enter Try.func31, Try.ntmps31
      go_wp2
      go_ret
      exact ⟨(z % 200).toNat, by omega, ret_int (show z % 200 = _ by omega), 0, rfl⟩

theorem long30 (a1 : Option Addr) (len1 cap1 : Nat) (a2 : Option Addr) (len2 cap2 : Nat) (h1 : len1 ≤ maxLen) (h2 : len2 ≤ maxLen) (w : World) :
    Calls Try.prog 30 #[.slice a1 len1 cap1, .slice a2 len2 cap2] w fun e w' => e = .returned (.bool (decide (1048576 < len1) || decide (1048576 < len2))) ∧ w = w' := by
  unfold maxLen at h1 h2
  by_cases c1 : 1048576 < len1
  · go_enter Try.func30, Try.ntmps30
    go_wp2
    go_ret
    exact ⟨by simp [c1], rfl⟩
  · by_cases c2 : 1048576 < len2
    · go_enter Try.func30, Try.ntmps30
      go_wp2
      go_ret
      exact ⟨by simp [c1, c2]; omega, rfl⟩
    · go_enter Try.func30, Try.ntmps30
      go_wp2
      go_ret
      exact ⟨by simp [c1, c2]; omega, rfl⟩
theorem IsRow.drew {k : IntKind} {w : World} {a : Option Addr} {len cap : Nat} {zs : List Int} (h : IsRow k w a len cap zs) (n : Nat) : IsRow k (w.drewN n) a len cap zs := by
  rcases h with h | ⟨x, h1, h2, h3, h4, h5, h6⟩
  · exact .inl h
  · exact .inr ⟨x, h1, h2, h3, h4, fun i hi => by rw [← h5 i hi]; go_simp, h6⟩
theorem call120 (args : Array Value) (w : World) : (callFunc 120 args).run Try.prog w = ((Extern.MathFloatBits.float32bits args).run Try.prog w).andThen fun v w' => .ok (.value v) w' :=
  run_callFunc_extern Try.func120 (by kernel_rfl) (by kernel_rfl) (by kernel_rfl) (by kernel_rfl) args w
theorem bits120 (b : Nat) (w : World) : (callFunc 120 #[.float .f32 b]).run Try.prog w = .ok (.value (.int .u32 b)) w := by rw [call120]; rfl
theorem bits102 (b : Nat) (hb : b < 4294967296) (hn : FloatKind.f32.format.nan b = false) (w : World) : Calls Try.prog 102 #[.float .f32 b] w fun e w' => e = .returned (.int .i64 b) ∧ w = w' := by
  have ho := neq_self .f32 b
  have hc := fun w => bits120 b w
  rw [hn] at ho
  clear hn
  go_enter Try.func102, Try.ntmps102
  go_wp2
  go_ret
  exact ⟨rfl, rfl⟩
/-- A quarter is not nothing. -/
theorem same59 (b : Nat) (hb : b < 4294967296) (hn : FloatKind.f32.format.nan b = false) (h0 : ¬ (b : Int) = 0) (w : World) : Calls Try.prog 59 #[.float .f32 b, .float .f32 0] w fun e w' => e = .returned (.bool false) ∧ w = w' := by
  have h1 := fun W => bits102 b hb hn W
  have h2 := fun W => bits102 0 (by decide +kernel) (by decide +kernel) W
  have hs : ∀ W, Calls Try.prog 101 #[.float .f32 b, .float .f32 0] W fun e w' => e = .returned (.bool false) ∧ W = w' := by
    intro W
    go_enter Try.func101, Try.ntmps101
    go_wp2_with (first | (go_at_call 102; (with_reducible refine (h1 _).mono ?_); rintro e w' ⟨rfl, rfl⟩) | (go_at_call 102; (with_reducible refine (h2 _).mono ?_); rintro e w' ⟨rfl, rfl⟩))
    go_ret
    exact ⟨by show Ending.returned (.bool ((b : Int) == 0)) = _; rw [beq_eq_false_iff_ne.2 h0], rfl⟩
  go_enter Try.func59, Try.ntmps59
  go_wp2_with (go_at_call 101; refine (hs _).mono ?_; rintro e w' ⟨rfl, rfl⟩)
  go_ret
  exact ⟨rfl, rfl⟩
end Go.Proofs.Ytigcnipgmjmenaa.Cw
