/- FnCircles: the walk. -/
import Derived.Test.YtigcnipgmjmenaaCw
import Derived.Test.YtigcnipgmjmenaaCma
import Derived.Test.YtigcnipgmjmenaaCmb
import Derived.Test.YtigcnipgmjmenaaCt0
import Derived.Test.YtigcnipgmjmenaaCt1
import Derived.Test.YtigcnipgmjmenaaCt2
import Derived.Test.YtigcnipgmjmenaaCt3
import Derived.Test.YtigcnipgmjmenaaCt4
import Derived.Test.YtigcnipgmjmenaaCt5
import Derived.Test.YtigcnipgmjmenaaCt6
import Derived.Test.YtigcnipgmjmenaaCt7
import Derived.Test.YtigcnipgmjmenaaCt8
import Derived.Test.YtigcnipgmjmenaaCt9
import Derived.Test.YtigcnipgmjmenaaCt10
import Derived.Test.YtigcnipgmjmenaaCt11
import Derived.Test.YtigcnipgmjmenaaCx
import Derived.Deep.CutBlock
set_option linter.unusedVariables false
set_option linter.unusedSimpArgs false
set_option exponentiation.threshold 3000
section
set_option maxRecDepth 100000
namespace Go.Proofs.Ytigcnipgmjmenaa.Ct
open Go.Fl Go.RowKit Ieee
theorem tenAll (n : Nat) (h : n < 40001) : tenOk n = true := by
  by_cases h0 : n < 1194
  · exact tenAll0 n (by omega) h0
  by_cases h1 : n < 2773
  · exact tenAll1 n (by omega) h1
  by_cases h2 : n < 4588
  · exact tenAll2 n (by omega) h2
  by_cases h3 : n < 6612
  · exact tenAll3 n (by omega) h3
  by_cases h4 : n < 8814
  · exact tenAll4 n (by omega) h4
  by_cases h5 : n < 11227
  · exact tenAll5 n (by omega) h5
  by_cases h6 : n < 13843
  · exact tenAll6 n (by omega) h6
  by_cases h7 : n < 16716
  · exact tenAll7 n (by omega) h7
  by_cases h8 : n < 19900
  · exact tenAll8 n (by omega) h8
  by_cases h9 : n < 23635
  · exact tenAll9 n (by omega) h9
  by_cases h10 : n < 28518
  · exact tenAll10 n (by omega) h10
  by_cases h11 : n < 40001
  · exact tenAll11 n (by omega) h11
  omega
theorem ten_is (n : Nat) (h : n < 40001) (hb : bs.testBit n = true) : tenB (tX n) = true ∧ tenN (tX n) = tenT n := by
  have := tenAll n h
  unfold tenOk at this
  rw [hb] at this
  simp only [Bool.not_true, Bool.false_or, Bool.and_eq_true, decide_eq_true_eq] at this
  exact ⟨this.1, (tenF_eq _).trans this.2⟩
def chk (i j : Nat) : Bool := bs.testBit ((i + 1) * (j + 1)) && decide (tenT (8 * (i + 1)) + tenT (8 * (j + 1)) - tenT ((i + 1) * (j + 1)) ≤ 1) && decide (tenT ((i + 1) * (j + 1)) - tenT (8 * (i + 1)) - tenT (8 * (j + 1)) ≤ 1)
set_option maxHeartbeats 0 in
theorem chk_0 : ∀ i : Nat, i < 20 → ∀ j : Nat, j < 200 → chk (i + 0) j = true := by decide +kernel
set_option maxHeartbeats 0 in
theorem chk_1 : ∀ i : Nat, i < 20 → ∀ j : Nat, j < 200 → chk (i + 20) j = true := by decide +kernel
set_option maxHeartbeats 0 in
theorem chk_2 : ∀ i : Nat, i < 20 → ∀ j : Nat, j < 200 → chk (i + 40) j = true := by decide +kernel
set_option maxHeartbeats 0 in
theorem chk_3 : ∀ i : Nat, i < 20 → ∀ j : Nat, j < 200 → chk (i + 60) j = true := by decide +kernel
set_option maxHeartbeats 0 in
theorem chk_4 : ∀ i : Nat, i < 20 → ∀ j : Nat, j < 200 → chk (i + 80) j = true := by decide +kernel
set_option maxHeartbeats 0 in
theorem chk_5 : ∀ i : Nat, i < 20 → ∀ j : Nat, j < 200 → chk (i + 100) j = true := by decide +kernel
set_option maxHeartbeats 0 in
theorem chk_6 : ∀ i : Nat, i < 20 → ∀ j : Nat, j < 200 → chk (i + 120) j = true := by decide +kernel
set_option maxHeartbeats 0 in
theorem chk_7 : ∀ i : Nat, i < 20 → ∀ j : Nat, j < 200 → chk (i + 140) j = true := by decide +kernel
set_option maxHeartbeats 0 in
theorem chk_8 : ∀ i : Nat, i < 20 → ∀ j : Nat, j < 200 → chk (i + 160) j = true := by decide +kernel
set_option maxHeartbeats 0 in
theorem chk_9 : ∀ i : Nat, i < 20 → ∀ j : Nat, j < 200 → chk (i + 180) j = true := by decide +kernel
theorem chkAll (i : Nat) (hi : i < 200) (j : Nat) (hj : j < 200) : chk i j = true := by
  by_cases h0 : i < 20
  · have := chk_0 (i - 0) (by omega) j hj; rwa [show i - 0 + 0 = i by omega] at this
  by_cases h1 : i < 40
  · have := chk_1 (i - 20) (by omega) j hj; rwa [show i - 20 + 20 = i by omega] at this
  by_cases h2 : i < 60
  · have := chk_2 (i - 40) (by omega) j hj; rwa [show i - 40 + 40 = i by omega] at this
  by_cases h3 : i < 80
  · have := chk_3 (i - 60) (by omega) j hj; rwa [show i - 60 + 60 = i by omega] at this
  by_cases h4 : i < 100
  · have := chk_4 (i - 80) (by omega) j hj; rwa [show i - 80 + 80 = i by omega] at this
  by_cases h5 : i < 120
  · have := chk_5 (i - 100) (by omega) j hj; rwa [show i - 100 + 100 = i by omega] at this
  by_cases h6 : i < 140
  · have := chk_6 (i - 120) (by omega) j hj; rwa [show i - 120 + 120 = i by omega] at this
  by_cases h7 : i < 160
  · have := chk_7 (i - 140) (by omega) j hj; rwa [show i - 140 + 140 = i by omega] at this
  by_cases h8 : i < 180
  · have := chk_8 (i - 160) (by omega) j hj; rwa [show i - 160 + 160 = i by omega] at this
  by_cases h9 : i < 200
  · have := chk_9 (i - 180) (by omega) j hj; rwa [show i - 180 + 180 = i by omega] at this
  omega
set_option maxHeartbeats 0 in
theorem bitAll : ∀ i : Nat, i < 200 → bs.testBit (8 * (i + 1)) = true := by decide +kernel
theorem one_is : tX 64 = 1065353216 ∧ bs.testBit 64 = true ∧ tenT 64 = 0 := by decide +kernel
set_option maxHeartbeats 0 in
theorem xAll : ∀ i : Nat, i < 200 → fop .quo .f32 (some (floatOfInt .f32 ((i : Int) + 1))) (some 1090519040) = some (tX (8 * (i + 1))) := by decide +kernel
set_option maxHeartbeats 0 in
theorem xIs : ∀ i : Nat, i < 200 → single.nan (tX (8 * (i + 1))) = false ∧ tX (8 * (i + 1)) < 4294967296 ∧ single.nan (floatOfInt .f32 ((i : Int) + 1)) = false ∧ floatOfInt .f32 ((i : Int) + 1) < 4294967296 := by decide +kernel
end Go.Proofs.Ytigcnipgmjmenaa.Ct
end
namespace Go.Proofs.Ytigcnipgmjmenaa.Cc
open Go.Fl Go.RowKit Ieee Go.Proofs.Ytigcnipgmjmenaa Go.Proofs.Ytigcnipgmjmenaa.Cw Go.Proofs.Ytigcnipgmjmenaa.Ci Go.Proofs.Ytigcnipgmjmenaa.Ct
theorem mulAll (i j : Nat) (hi : i < 64) (hj : j < 64) : mulOk i j = true := by
  by_cases h0 : i < 16
  · exact mulAll0 i h0 j hj
  by_cases h1 : i < 32
  · have := mulAll1 (i - 16) (by omega) j hj; rwa [show i - 16 + 16 = i by omega] at this
  by_cases h2 : i < 48
  · have := mulAll2 (i - 32) (by omega) j hj; rwa [show i - 32 + 32 = i by omega] at this
  · have := mulAll3 (i - 48) (by omega) j hj; rwa [show i - 48 + 48 = i by omega] at this
theorem mul_is (i j : Nat) (hi : i < 64) (hj : j < 64) : ∃ m n, nw (uV (prT i) (piT i) (prT j) (piT j)) = some m ∧ nw (vV (prT i) (piT i) (prT j) (piT j)) = some n ∧ nearB m (prT ((i + j) % 64)) = true ∧ nearB n (piT ((i + j) % 64)) = true := by
  have h := mulAll i j hi hj
  unfold mulOk at h
  cases h1 : nw (uV (prT i) (piT i) (prT j) (piT j)) with
  | none => rw [h1] at h; cases h
  | some m =>
    cases h2 : nw (vV (prT i) (piT i) (prT j) (piT j)) with
    | none => rw [h1, h2] at h; cases h
    | some n =>
      rw [h1, h2] at h
      obtain ⟨g1, g2⟩ := Bool.and_eq_true_iff.1 h
      exact ⟨m, n, rfl, rfl, g1, g2⟩
theorem tr_is (z : Nat) (hz : z < 256) : ∃ u n, fop .add .f64 (trV z) (some 4666723447345250304) = some u ∧ floatToIntVal .f64 u .i64 = some n ∧ u < 18446744073709551616 ∧ -1000000 < n ∧ n < 1000000 ∧ Int.tmod (n - 10000) 64 = 0 ∧ cmpV .gtr .f64 (gapV (trV z) (some (floatOfInt .f64 (n - 10000)))) (some 4562254508917369340) = false := by
  have h := trAll z hz
  unfold trOk at h
  cases h1 : fop .add .f64 (trV z) (some 4666723447345250304) with
  | none => rw [h1] at h; cases h
  | some u =>
    rw [h1] at h
    cases h2 : floatToIntVal .f64 u .i64 with
    | none => simp only [h2] at h; cases h
    | some n =>
      simp only [h2, Bool.and_eq_true, decide_eq_true_eq, Bool.not_eq_true'] at h
      obtain ⟨⟨⟨⟨g1, g2⟩, g3⟩, g4⟩, g5⟩ := h
      exact ⟨u, n, rfl, h2, g1, g2, g3, g4, g5⟩
theorem pIs (k : Nat) (h : k < 64) : Is .f32 (prT k) (some (prT k)) ∧ Is .f32 (piT k) (some (piT k)) := ⟨Is.const32 ⟨(p_ok k h).1.1, (p_ok k h).1.2.1⟩, Is.const32 ⟨(p_ok k h).2.1, (p_ok k h).2.2.1⟩⟩
theorem fI64 : ∀ z : Nat, z < 512 → Is .f64 (floatOfInt .f64 ((z : Int) - 256)) (some (floatOfInt .f64 ((z : Int) - 256))) := by
  unfold Is
  decide +kernel
theorem fI (x : Int) (h0 : -256 ≤ x) (h1 : x < 256) : Is .f64 (floatOfInt .f64 x) (some (floatOfInt .f64 x)) := by
  have := fI64 (x + 256).toNat (by omega)
  rwa [show (((x + 256).toNat : Nat) : Int) - 256 = x by omega] at this
theorem phasor (x : Int) (h0 : -256 ≤ x) (h1 : x < 256) (k : Nat) (hk : (x + 256).toNat % 64 = k) (r : Nat) (hr : Is .f64 r (fop .quo .f64 (some (floatOfInt .f64 x)) (some 4634204016564240384))) (w : World) :
    Calls Try.prog 40 #[.float .f64 r] w (PostC (some (prT k)) (some (piT k)) w) := by
  obtain ⟨b, e1, e2, e3, e4⟩ := ph_is (x + 256).toNat (by omega)
  unfold xq at e1
  rw [show (((x + 256).toNat : Nat) : Int) - 256 = x by omega] at e1
  rw [e1] at hr
  obtain ⟨rfl, -⟩ := hr.some
  rw [hk] at e3 e4
  rw [← e3, ← e4]
  exact implPh40 _ e2 w
theorem angle (k : Nat) (h : k < 64) (p q : Nat) (hp : Is .f32 p (some (prT k))) (hq : Is .f32 q (some (piT k))) (w : World) : Calls Try.prog 55 #[.complex .f32 p q] w (Post32 (some (anT k)) w) := by
  have := angAll k h
  rw [beq_iff_eq] at this
  rw [← this]
  exact angle55 p q _ _ hp hq w
theorem power (k : Nat) (h : k < 64) (p q : Nat) (hp : Is .f32 p (some (prT k))) (hq : Is .f32 q (some (piT k))) (w : World) : Calls Try.prog 56 #[.complex .f32 p q] w (Post32 (some (pwT k)) w) := by
  have h1 := pwAll k h
  simp only [Bool.and_eq_true, beq_iff_eq] at h1
  obtain ⟨g1, g2⟩ := nw_ok h1.1
  have := powerOf56 p q _ _ hp hq g1 w
  exact g2 ▸ this
theorem product (i j : Nat) (hi : i < 64) (hj : j < 64) (m n : Nat) (hm : nw (uV (prT i) (piT i) (prT j) (piT j)) = some m) (hn : nw (vV (prT i) (piT i) (prT j) (piT j)) = some n)
    (p q r s : Nat) (hp : Is .f32 p (some (prT i))) (hq : Is .f32 q (some (piT i))) (hr : Is .f32 r (some (prT j))) (hs : Is .f32 s (some (piT j))) (w : World) :
    Calls Try.prog 58 #[.complex .f32 p q, .complex .f32 r s] w (PostC (some m) (some n) w) := by
  obtain ⟨g1, g2⟩ := nw_ok hm
  obtain ⟨g3, g4⟩ := nw_ok hn
  have := mul58 p q r s _ _ _ _ hp hq hr hs g1 g3 w
  exact g2 ▸ g4 ▸ this
theorem tenths (n : Nat) (h : n < 40001) (hb : bs.testBit n = true) (m : Int) (hm : tenT n = m) (b : Nat) (hr : Is .f32 b (some (tX n))) (w : World) : Calls Try.prog 43 #[.float .f32 b] w (TenPost m true w) := by
  obtain ⟨g1, g2⟩ := ten_is n h hb
  obtain ⟨t, ht⟩ : ∃ t, tX n = t := ⟨_, rfl⟩
  rw [ht] at hr g1 g2
  obtain ⟨rfl, -⟩ := hr.some
  have := implTen43 b hr.2 w
  rw [g1, if_pos rfl, g2, hm] at this
  exact this
theorem ten1 (w : World) : Calls Try.prog 43 #[.float .f32 1065353216] w (TenPost 0 true w) :=
  tenths 64 (by decide +kernel) one_is.2.1 0 one_is.2.2 1065353216 (by rw [one_is.1]; exact Is.const32 (by decide +kernel)) w
theorem ang1 (w : World) : Calls Try.prog 55 #[.complex .f32 0 1065353216] w (Post32 (some 1048576000) w) := by
  have := angle55 0 1065353216 0 1065353216 (Is.const32 (by decide +kernel)) (Is.const32 (by decide +kernel)) w
  rw [angI] at this
  exact this
theorem sameQ (r t : Nat) (ht : t ≠ 0) (hr : Is .f32 r (some t)) (w : World) : Calls Try.prog 59 #[.float .f32 r, .float .f32 0] w fun e w' => e = .returned (.bool false) ∧ w = w' := by
  obtain ⟨rfl, hn⟩ := hr.some
  exact same59 r hr.2 hn (by omega) w
def trSm (z : Nat) : Bool :=
  match fop .add .f64 (trV z) (some 4666723447345250304) with
  | some u => match floatToIntVal .f64 u .i64 with
    | some n => decide (-256 ≤ n - 10000) && decide (n - 10000 < 256)
    | none => false
  | none => false
theorem trSmAll : ∀ z : Nat, z < 256 → trSm z = true := by decide +kernel
theorem tr_small (z : Nat) (hz : z < 256) {u : Nat} {n : Int} (h1 : fop .add .f64 (trV z) (some 4666723447345250304) = some u) (h2 : floatToIntVal .f64 u .i64 = some n) : -256 ≤ n - 10000 ∧ n - 10000 < 256 := by
  have h := trSmAll z hz
  unfold trSm at h
  rw [h1] at h
  simp only [h2, Bool.and_eq_true, decide_eq_true_eq] at h
  exact h
theorem fS (z : Nat) (h : z < 200) : Is .f32 (floatOfInt .f32 (1 + (z : Int))) (some (floatOfInt .f32 (1 + (z : Int)))) := by
  rw [Int.add_comm]
  exact Is.const32 ⟨(xIs z h).2.2.1, (xIs z h).2.2.2⟩
theorem xq32 (z : Nat) (h : z < 200) : fop .quo .f32 (some (floatOfInt .f32 (1 + (z : Int)))) (some 1090519040) = some (tX (8 * (z + 1))) := by
  rw [Int.add_comm]
  exact xAll z h
theorem xyAll (i : Nat) (hi : i < 200) (j : Nat) (hj : j < 200) : fop .mul .f32 (some (tX (8 * (i + 1)))) (some (tX (8 * (j + 1)))) = some (tX ((i + 1) * (j + 1))) := by
  by_cases h0 : i < 50
  · exact xyAll0 i (by omega) h0 j hj
  by_cases h1 : i < 100
  · exact xyAll1 i (by omega) h1 j hj
  by_cases h2 : i < 150
  · exact xyAll2 i (by omega) h2 j hj
  · exact xyAll3 i (by omega) (by omega) j hj
theorem chk_is (i : Nat) (hi : i < 200) (j : Nat) (hj : j < 200) : bs.testBit ((i + 1) * (j + 1)) = true ∧ tenT (8 * (i + 1)) + tenT (8 * (j + 1)) - tenT ((i + 1) * (j + 1)) ≤ 1 ∧ tenT ((i + 1) * (j + 1)) - tenT (8 * (i + 1)) - tenT (8 * (j + 1)) ≤ 1 := by
  have h := chkAll i hi j hj
  unfold chk at h
  simp only [Bool.and_eq_true, decide_eq_true_eq] at h
  exact ⟨h.1.1, h.1.2, h.2⟩
theorem tm16All : ∀ z : Nat, z < 256 → decide (Int.tmod ((z : Int) - 128) 16 = 0) = decide (z % 64 % 16 = 0) := by decide +kernel
theorem tm16 (z : Nat) (hz : z < 256) : Int.tmod ((z : Int) - 128) 16 = 0 ↔ z % 64 % 16 = 0 := by
  have := tm16All z hz
  rwa [decide_eq_decide] at this
theorem tenT_b (n : Nat) : -256 ≤ tenT n ∧ tenT n ≤ 767 := by
  unfold tenT
  generalize tt >>> (10 * n) = q
  omega
theorem le40 (i j : Nat) (hi : i < 200) (hj : j < 200) : (i + 1) * (j + 1) < 40001 := by
  have := Nat.mul_le_mul (show i + 1 ≤ 200 by omega) (show j + 1 ≤ 200 by omega)
  omega
set_option maxRecDepth 100000 in
theorem circles_yes (a0 : Option Addr) (len0 cap0 : Nat) (z0 : List Int) (a1 : Option Addr) (len1 cap1 : Nat) (z1 : List Int) (w : World) (h0 : IsRow .u8 w a0 len0 cap0 z0) (h1 : IsRow .u8 w a1 len1 cap1 z1)
    (hl : (decide (1048576 < len0) || decide (1048576 < len1)) = true) :
    Calls Try.prog 16 #[.slice a0 len0 cap0, .slice a1 len1 cap1] w fun e w' => e = .returned (.bool true) ∧ Below w.heap.size w w' := by
  have c0 := long30 a0 len0 cap0 a1 len1 cap1 (by have := h0.len; omega) (by have := h1.len; omega)
  rw [hl] at c0
  have C0 := Lib.hid c0
  clear c0 h0 h1 hl
  go_enter Try.func16, Try.ntmps16
  go_wp2_with (first | (go_at_call 30; refine (C0.out _).mono ?_; rintro e w' ⟨rfl, rfl⟩))
  go_ret
  exact ⟨rfl, Below.refl _ _⟩
set_option maxRecDepth 100000 in
set_option maxHeartbeats 8000000 in
theorem circles_no (a0 : Option Addr) (len0 cap0 : Nat) (z0 : List Int) (a1 : Option Addr) (len1 cap1 : Nat) (z1 : List Int) (w : World) (h0 : IsRow .u8 w a0 len0 cap0 z0) (h1 : IsRow .u8 w a1 len1 cap1 z1)
    (hl : (decide (1048576 < len0) || decide (1048576 < len1)) = false) :
    Calls Try.prog 16 #[.slice a0 len0 cap0, .slice a1 len1 cap1] w fun e w' => e = .returned (.bool true) ∧ Below w.heap.size w w' := by
  have c0 := long30 a0 len0 cap0 a1 len1 cap1 (by have := h0.len; omega) (by have := h1.len; omega)
  rw [hl] at c0
  have C0 := Lib.hid c0
  have HR0 := Lib.hid h0
  have HR1 := Lib.hid h1
  clear c0 h0 h1 hl
  go_enter Try.func16, Try.ntmps16
  go_upto_region 5 with (first | (go_at_call 30; refine (C0.out _).mono ?_; rintro e w' ⟨rfl, rfl⟩) | (go_at_call 31; ((with_reducible refine (at_0_256 a0 len0 cap0 z0 _ HR0.out).mono ?_); rintro e w' ⟨za, hza, rfl, nza, rfl⟩)) | (go_at_call 31; ((with_reducible refine (at_1_256 a0 len0 cap0 z0 _ (IsRow.drew HR0.out _)).mono ?_); rintro e w' ⟨zb, hzb, rfl, nzb, rfl⟩)))
  have hia := fI ((za : Int) - 128) (by omega) (by omega)
  have hib := fI ((zb : Int) - 128) (by omega) (by omega)
  have hic := fI ((za : Int) - 128 + ((zb : Int) - 128)) (by omega) (by omega)
  go_upto_region 8 with (first | (go_at_call 40; ((with_reducible refine (phasor ((za : Int) - 128) (by omega) (by omega) (za % 64) (by omega) _ (by with_reducible assumption) _).mono ?_); rintro e w' ⟨r, s, n, rfl, hr, hs, rfl⟩)) | (go_at_call 40; ((with_reducible refine (phasor ((zb : Int) - 128) (by omega) (by omega) (zb % 64) (by omega) _ (by with_reducible assumption) _).mono ?_); rintro e w' ⟨r, s, n, rfl, hr, hs, rfl⟩)) | (go_at_call 40; ((with_reducible refine (phasor ((za : Int) - 128 + ((zb : Int) - 128)) (by omega) (by omega) ((za % 64 + zb % 64) % 64) (by omega) _ (by with_reducible assumption) _).mono ?_); rintro e w' ⟨r, s, n, rfl, hr, hs, rfl⟩)) | (refine wpList_ar _ _ _ _ _ rfl rfl rfl _ _ _ rfl rfl (by first | with_reducible assumption | exact Is.const64 (by decide +kernel) | exact Is.const32 (by decide +kernel)) (by first | with_reducible assumption | exact Is.const64 (by decide +kernel) | exact Is.const32 (by decide +kernel)) ?_; intro r n hr))
  obtain ⟨u0, n0, T1, T2, T3, T4, T5, T6, T7⟩ := tr_is za hza
  obtain ⟨T8, T9⟩ := tr_small za hza T1 T2
  have HT : Hid (fop .add .f64 (fop .sub .f64 (fop .mul .f64 (widen (some (anT (za % 64)))) (some 4634204016564240384)) (some (floatOfInt .f64 ((za : Int) - 128)))) (some 4666723447345250304) = some u0) := Lib.hid T1
  have HF := Lib.hid T2
  have hin := fI (n0 - 10000) T8 T9
  have G2 : Hid (cmpV .gtr .f64 (gapV (fop .sub .f64 (fop .mul .f64 (widen (some (anT (za % 64)))) (some 4634204016564240384)) (some (floatOfInt .f64 ((za : Int) - 128)))) (some (floatOfInt .f64 (n0 - 10000)))) (some 4562254508917369340) = false) := Lib.hid T7
  clear T1 T2 T3 T4 T5 T7
  go_upto_region 11 with (first | (go_at_call 55; ((with_reducible refine (angle (za % 64) (by omega) _ _ (by with_reducible assumption) (by with_reducible assumption) _).mono ?_); rintro e w' ⟨r, n, rfl, hr, rfl⟩)) | (refine wpList_wi _ _ _ rfl rfl _ rfl (by kernel_rfl) (by kernel_rfl) (by assumption) ?_; intro r n hr) | (refine wpList_ar _ _ _ _ _ rfl rfl rfl _ _ _ rfl rfl (by first | with_reducible assumption | exact Is.const64 (by decide +kernel) | exact Is.const32 (by decide +kernel)) (by first | with_reducible assumption | exact Is.const64 (by decide +kernel) | exact Is.const32 (by decide +kernel)) ?_; intro r n hr; (try (rw [HT.out] at hr; obtain ⟨rfl, -⟩ := hr.some))) | (refine wpList_ftoi _ _ _ rfl rfl _ _ _ rfl (by kernel_rfl) (by kernel_rfl) HF.out ?_))
  have hpw := pwAll (za % 64) (by omega)
  simp only [Bool.and_eq_true, Bool.not_eq_true'] at hpw
  have G1 : Hid (cmpV .gtr .f64 (gapV (widen (some (pwT (za % 64)))) (some 4607182418800017408)) (some 4547007122018943789) = false) := Lib.hid hpw.2
  clear hpw
  obtain ⟨m0, o0, M1, M2, M3, M4⟩ := mul_is (za % 64) (zb % 64) (by omega) (by omega)
  have HM1 := Lib.hid M1
  have HM2 := Lib.hid M2
  have N1 : Hid (cmpV .leq .f64 (gapV (widen (some m0)) (widen (some (prT ((za % 64 + zb % 64) % 64))))) (some 4547007122018943789) = true) := Lib.hid M3
  have N2 : Hid (cmpV .leq .f64 (gapV (widen (some o0)) (widen (some (piT ((za % 64 + zb % 64) % 64))))) (some 4547007122018943789) = true) := Lib.hid M4
  clear M1 M2 M3 M4
  go_upto_region 13 with (first | (go_at_call 56; ((with_reducible refine (power (za % 64) (by omega) _ _ (by with_reducible assumption) (by with_reducible assumption) _).mono ?_); rintro e w' ⟨r, n, rfl, hr, rfl⟩)) | (refine wpList_wi _ _ _ rfl rfl _ rfl (by kernel_rfl) (by kernel_rfl) (by assumption) ?_; intro r n hr) | (go_at_call 32; ((with_reducible refine (gap32 _ _ _ _ (by with_reducible assumption) (by first | with_reducible assumption | exact Is.const64 (by decide +kernel) | exact Is.const32 (by decide +kernel)) _).mono ?_); rintro e w' ⟨r, n, rfl, hr, rfl⟩)) | (refine wpList_cmd _ _ _ _ _ rfl rfl rfl _ _ _ rfl rfl (by first | with_reducible assumption | exact Is.const64 (by decide +kernel) | exact Is.const32 (by decide +kernel)) (by first | with_reducible assumption | exact Is.const64 (by decide +kernel) | exact Is.const32 (by decide +kernel)) G1.out ?_) | (refine wpList_cmd _ _ _ _ _ rfl rfl rfl _ _ _ rfl rfl (by first | with_reducible assumption | exact Is.const64 (by decide +kernel) | exact Is.const32 (by decide +kernel)) (by first | with_reducible assumption | exact Is.const64 (by decide +kernel) | exact Is.const32 (by decide +kernel)) G2.out ?_) | (go_at_call 58; ((with_reducible refine (product (za % 64) (zb % 64) (by omega) (by omega) m0 o0 HM1.out HM2.out _ _ _ _ (by with_reducible assumption) (by with_reducible assumption) (by with_reducible assumption) (by with_reducible assumption) _).mono ?_); rintro e w' ⟨r, s, n, rfl, hr, hs, rfl⟩)) | (go_at_call 57; ((with_reducible refine (near57 _ _ _ _ _ _ _ _ _ _ (by with_reducible assumption) (by with_reducible assumption) (by with_reducible assumption) (by with_reducible assumption) (Is.const64 (by decide +kernel)) N1.out N2.out _).mono ?_); rintro e w' ⟨rfl, n, rfl⟩)))
  clear hia hib hic hin G1 G2 HM1 HM2 N1 N2 HT HF T6 T8 T9
  by_cases h16 : za % 64 % 16 = 0
  · have t16 : Int.tmod ((za : Int) - 128) 16 = 0 := (tm16 za hza).2 h16
    obtain ⟨j, hj, ej⟩ : ∃ j, j < 4 ∧ za % 64 = 16 * j := ⟨za % 64 / 16, by omega, by omega⟩
    have hre := reAll j hj
    rw [← ej] at hre
    cases hc : cmpV .neq .f64 (reG (za % 64)) (some 0) with
    | false =>
      have HC : Hid (cmpV .neq .f64 (gapV (widen (some (prT (za % 64)))) (some 0)) (some 0) = false) := Lib.hid hc
      clear hre hc ej
      go_upto_region 15 with (first | (refine wpList_wi _ _ _ rfl rfl _ rfl (by kernel_rfl) (by kernel_rfl) (by assumption) ?_; intro r n hr) | (go_at_call 32; ((with_reducible refine (gap32 _ _ _ _ (by with_reducible assumption) (by first | with_reducible assumption | exact Is.const64 (by decide +kernel) | exact Is.const32 (by decide +kernel)) _).mono ?_); rintro e w' ⟨r, n, rfl, hr, rfl⟩)) | (refine wpList_cmd _ _ _ _ _ rfl rfl rfl _ _ _ rfl rfl (by first | with_reducible assumption | exact Is.const64 (by decide +kernel) | exact Is.const32 (by decide +kernel)) (by first | with_reducible assumption | exact Is.const64 (by decide +kernel) | exact Is.const32 (by decide +kernel)) HC.out ?_))
      go_upto_region 17 with (first | (go_at_call 31; ((with_reducible refine (at_0_200 a1 len1 cap1 z1 _ (IsRow.drew HR1.out _)).mono ?_); rintro e w' ⟨zx, hzx, rfl, nzx, rfl⟩); have hfx := fS zx hzx; have QX := Lib.hid (xq32 zx hzx)) | (go_at_call 31; ((with_reducible refine (at_1_200 a1 len1 cap1 z1 _ (IsRow.drew HR1.out _)).mono ?_); rintro e w' ⟨zy, hzy, rfl, nzy, rfl⟩); have hfy := fS zy hzy; have QY := Lib.hid (xq32 zy hzy)) | (refine wpList_ar _ _ _ _ _ rfl rfl rfl _ _ _ rfl rfl (by first | with_reducible assumption | exact Is.const64 (by decide +kernel) | exact Is.const32 (by decide +kernel)) (by first | with_reducible assumption | exact Is.const64 (by decide +kernel) | exact Is.const32 (by decide +kernel)) ?_; intro r n hr; (try (first | rw [QX.out] at hr | rw [QY.out] at hr))))
      obtain ⟨BXY, D1, D2⟩ := chk_is zx hzx zy hzy
      have QXY := Lib.hid (xyAll zx hzx zy hzy)
      obtain ⟨m1, E1⟩ : ∃ m, tenT (8 * (zx + 1)) = m := ⟨_, rfl⟩
      obtain ⟨m2, E2⟩ : ∃ m, tenT (8 * (zy + 1)) = m := ⟨_, rfl⟩
      obtain ⟨m3, E3⟩ : ∃ m, tenT ((zx + 1) * (zy + 1)) = m := ⟨_, rfl⟩
      have b1 := tenT_b (8 * (zx + 1))
      have b2 := tenT_b (8 * (zy + 1))
      have b3 := tenT_b ((zx + 1) * (zy + 1))
      rw [E1] at b1 D1 D2
      rw [E2] at b2 D1 D2
      rw [E3] at b3 D1 D2
      have e1 := Lib.hid E1
      have e2 := Lib.hid E2
      have e3 := Lib.hid E3
      have HB := Lib.hid BXY
      have LE := Lib.hid (le40 zx zy hzx hzy)
      have BX := Lib.hid (bitAll zx hzx)
      have BY := Lib.hid (bitAll zy hzy)
      clear E1 E2 E3 BXY
      go_wp2_with (first | (go_at_call 43; ((with_reducible refine (tenths (8 * (zx + 1)) (by omega) BX.out m1 e1.out _ (by with_reducible assumption) _).mono ?_); rintro e w' ⟨rfl, n, rfl⟩)) | (go_at_call 43; ((with_reducible refine (tenths (8 * (zy + 1)) (by omega) BY.out m2 e2.out _ (by with_reducible assumption) _).mono ?_); rintro e w' ⟨rfl, n, rfl⟩)) | (go_at_call 43; ((with_reducible refine (tenths ((zx + 1) * (zy + 1)) LE.out HB.out m3 e3.out _ (by with_reducible assumption) _).mono ?_); rintro e w' ⟨rfl, n, rfl⟩)) | (go_at_call 43; ((with_reducible refine (ten1 _).mono ?_); rintro e w' ⟨rfl, n, rfl⟩)) | (go_at_call 55; ((with_reducible refine (ang1 _).mono ?_); rintro e w' ⟨r, n, rfl, hr, rfl⟩)) | (go_at_call 59; ((with_reducible refine (sameQ _ 1048576000 (by decide +kernel) (by with_reducible assumption) _).mono ?_); rintro e w' ⟨rfl, rfl⟩)) | (refine wpList_ar _ _ _ _ _ rfl rfl rfl _ _ _ rfl rfl (by first | with_reducible assumption | exact Is.const64 (by decide +kernel) | exact Is.const32 (by decide +kernel)) (by first | with_reducible assumption | exact Is.const64 (by decide +kernel) | exact Is.const32 (by decide +kernel)) ?_; intro r n hr; (try rw [QXY.out] at hr)))
      go_ret
      exact ⟨rfl, below_drewN (Below.refl _ _) _⟩
    | true =>
      rw [hc, Bool.true_and] at hre
      have HC : Hid (cmpV .neq .f64 (gapV (widen (some (prT (za % 64)))) (some 0)) (some 0) = true) := Lib.hid hc
      have HD : Hid (cmpV .neq .f64 (gapV (widen (some (prT (za % 64)))) (some 0)) (some 4607182418800017408) = false) := Lib.hid hre
      clear hre hc ej
      go_upto_region 15 with (first | (refine wpList_wi _ _ _ rfl rfl _ rfl (by kernel_rfl) (by kernel_rfl) (by assumption) ?_; intro r n hr) | (go_at_call 32; ((with_reducible refine (gap32 _ _ _ _ (by with_reducible assumption) (by first | with_reducible assumption | exact Is.const64 (by decide +kernel) | exact Is.const32 (by decide +kernel)) _).mono ?_); rintro e w' ⟨r, n, rfl, hr, rfl⟩)) | (refine wpList_cmd _ _ _ _ _ rfl rfl rfl _ _ _ rfl rfl (by first | with_reducible assumption | exact Is.const64 (by decide +kernel) | exact Is.const32 (by decide +kernel)) (by first | with_reducible assumption | exact Is.const64 (by decide +kernel) | exact Is.const32 (by decide +kernel)) HC.out ?_) | (refine wpList_cmd _ _ _ _ _ rfl rfl rfl _ _ _ rfl rfl (by first | with_reducible assumption | exact Is.const64 (by decide +kernel) | exact Is.const32 (by decide +kernel)) (by first | with_reducible assumption | exact Is.const64 (by decide +kernel) | exact Is.const32 (by decide +kernel)) HD.out ?_))
      go_upto_region 17 with (first | (go_at_call 31; ((with_reducible refine (at_0_200 a1 len1 cap1 z1 _ (IsRow.drew HR1.out _)).mono ?_); rintro e w' ⟨zx, hzx, rfl, nzx, rfl⟩); have hfx := fS zx hzx; have QX := Lib.hid (xq32 zx hzx)) | (go_at_call 31; ((with_reducible refine (at_1_200 a1 len1 cap1 z1 _ (IsRow.drew HR1.out _)).mono ?_); rintro e w' ⟨zy, hzy, rfl, nzy, rfl⟩); have hfy := fS zy hzy; have QY := Lib.hid (xq32 zy hzy)) | (refine wpList_ar _ _ _ _ _ rfl rfl rfl _ _ _ rfl rfl (by first | with_reducible assumption | exact Is.const64 (by decide +kernel) | exact Is.const32 (by decide +kernel)) (by first | with_reducible assumption | exact Is.const64 (by decide +kernel) | exact Is.const32 (by decide +kernel)) ?_; intro r n hr; (try (first | rw [QX.out] at hr | rw [QY.out] at hr))))
      obtain ⟨BXY, D1, D2⟩ := chk_is zx hzx zy hzy
      have QXY := Lib.hid (xyAll zx hzx zy hzy)
      obtain ⟨m1, E1⟩ : ∃ m, tenT (8 * (zx + 1)) = m := ⟨_, rfl⟩
      obtain ⟨m2, E2⟩ : ∃ m, tenT (8 * (zy + 1)) = m := ⟨_, rfl⟩
      obtain ⟨m3, E3⟩ : ∃ m, tenT ((zx + 1) * (zy + 1)) = m := ⟨_, rfl⟩
      have b1 := tenT_b (8 * (zx + 1))
      have b2 := tenT_b (8 * (zy + 1))
      have b3 := tenT_b ((zx + 1) * (zy + 1))
      rw [E1] at b1 D1 D2
      rw [E2] at b2 D1 D2
      rw [E3] at b3 D1 D2
      have e1 := Lib.hid E1
      have e2 := Lib.hid E2
      have e3 := Lib.hid E3
      have HB := Lib.hid BXY
      have LE := Lib.hid (le40 zx zy hzx hzy)
      have BX := Lib.hid (bitAll zx hzx)
      have BY := Lib.hid (bitAll zy hzy)
      clear E1 E2 E3 BXY
      go_wp2_with (first | (go_at_call 43; ((with_reducible refine (tenths (8 * (zx + 1)) (by omega) BX.out m1 e1.out _ (by with_reducible assumption) _).mono ?_); rintro e w' ⟨rfl, n, rfl⟩)) | (go_at_call 43; ((with_reducible refine (tenths (8 * (zy + 1)) (by omega) BY.out m2 e2.out _ (by with_reducible assumption) _).mono ?_); rintro e w' ⟨rfl, n, rfl⟩)) | (go_at_call 43; ((with_reducible refine (tenths ((zx + 1) * (zy + 1)) LE.out HB.out m3 e3.out _ (by with_reducible assumption) _).mono ?_); rintro e w' ⟨rfl, n, rfl⟩)) | (go_at_call 43; ((with_reducible refine (ten1 _).mono ?_); rintro e w' ⟨rfl, n, rfl⟩)) | (go_at_call 55; ((with_reducible refine (ang1 _).mono ?_); rintro e w' ⟨r, n, rfl, hr, rfl⟩)) | (go_at_call 59; ((with_reducible refine (sameQ _ 1048576000 (by decide +kernel) (by with_reducible assumption) _).mono ?_); rintro e w' ⟨rfl, rfl⟩)) | (refine wpList_ar _ _ _ _ _ rfl rfl rfl _ _ _ rfl rfl (by first | with_reducible assumption | exact Is.const64 (by decide +kernel) | exact Is.const32 (by decide +kernel)) (by first | with_reducible assumption | exact Is.const64 (by decide +kernel) | exact Is.const32 (by decide +kernel)) ?_; intro r n hr; (try rw [QXY.out] at hr)))
      go_ret
      exact ⟨rfl, below_drewN (Below.refl _ _) _⟩
  · have t16 : ¬ Int.tmod ((za : Int) - 128) 16 = 0 := fun h => h16 ((tm16 za hza).1 h)
    go_upto_region 15 with fail
    go_upto_region 17 with (first | (go_at_call 31; ((with_reducible refine (at_0_200 a1 len1 cap1 z1 _ (IsRow.drew HR1.out _)).mono ?_); rintro e w' ⟨zx, hzx, rfl, nzx, rfl⟩); have hfx := fS zx hzx; have QX := Lib.hid (xq32 zx hzx)) | (go_at_call 31; ((with_reducible refine (at_1_200 a1 len1 cap1 z1 _ (IsRow.drew HR1.out _)).mono ?_); rintro e w' ⟨zy, hzy, rfl, nzy, rfl⟩); have hfy := fS zy hzy; have QY := Lib.hid (xq32 zy hzy)) | (refine wpList_ar _ _ _ _ _ rfl rfl rfl _ _ _ rfl rfl (by first | with_reducible assumption | exact Is.const64 (by decide +kernel) | exact Is.const32 (by decide +kernel)) (by first | with_reducible assumption | exact Is.const64 (by decide +kernel) | exact Is.const32 (by decide +kernel)) ?_; intro r n hr; (try (first | rw [QX.out] at hr | rw [QY.out] at hr))))
    obtain ⟨BXY, D1, D2⟩ := chk_is zx hzx zy hzy
    have QXY := Lib.hid (xyAll zx hzx zy hzy)
    obtain ⟨m1, E1⟩ : ∃ m, tenT (8 * (zx + 1)) = m := ⟨_, rfl⟩
    obtain ⟨m2, E2⟩ : ∃ m, tenT (8 * (zy + 1)) = m := ⟨_, rfl⟩
    obtain ⟨m3, E3⟩ : ∃ m, tenT ((zx + 1) * (zy + 1)) = m := ⟨_, rfl⟩
    have b1 := tenT_b (8 * (zx + 1))
    have b2 := tenT_b (8 * (zy + 1))
    have b3 := tenT_b ((zx + 1) * (zy + 1))
    rw [E1] at b1 D1 D2
    rw [E2] at b2 D1 D2
    rw [E3] at b3 D1 D2
    have e1 := Lib.hid E1
    have e2 := Lib.hid E2
    have e3 := Lib.hid E3
    have HB := Lib.hid BXY
    have LE := Lib.hid (le40 zx zy hzx hzy)
    have BX := Lib.hid (bitAll zx hzx)
    have BY := Lib.hid (bitAll zy hzy)
    clear E1 E2 E3 BXY
    go_wp2_with (first | (go_at_call 43; ((with_reducible refine (tenths (8 * (zx + 1)) (by omega) BX.out m1 e1.out _ (by with_reducible assumption) _).mono ?_); rintro e w' ⟨rfl, n, rfl⟩)) | (go_at_call 43; ((with_reducible refine (tenths (8 * (zy + 1)) (by omega) BY.out m2 e2.out _ (by with_reducible assumption) _).mono ?_); rintro e w' ⟨rfl, n, rfl⟩)) | (go_at_call 43; ((with_reducible refine (tenths ((zx + 1) * (zy + 1)) LE.out HB.out m3 e3.out _ (by with_reducible assumption) _).mono ?_); rintro e w' ⟨rfl, n, rfl⟩)) | (go_at_call 43; ((with_reducible refine (ten1 _).mono ?_); rintro e w' ⟨rfl, n, rfl⟩)) | (go_at_call 55; ((with_reducible refine (ang1 _).mono ?_); rintro e w' ⟨r, n, rfl, hr, rfl⟩)) | (go_at_call 59; ((with_reducible refine (sameQ _ 1048576000 (by decide +kernel) (by with_reducible assumption) _).mono ?_); rintro e w' ⟨rfl, rfl⟩)) | (refine wpList_ar _ _ _ _ _ rfl rfl rfl _ _ _ rfl rfl (by first | with_reducible assumption | exact Is.const64 (by decide +kernel) | exact Is.const32 (by decide +kernel)) (by first | with_reducible assumption | exact Is.const64 (by decide +kernel) | exact Is.const32 (by decide +kernel)) ?_; intro r n hr; (try rw [QXY.out] at hr)))
    go_ret
    exact ⟨rfl, below_drewN (Below.refl _ _) _⟩
theorem circlesWalk (a0 : Option Addr) (len0 cap0 : Nat) (z0 : List Int) (a1 : Option Addr) (len1 cap1 : Nat) (z1 : List Int) (w : World) (h0 : IsRow .u8 w a0 len0 cap0 z0) (h1 : IsRow .u8 w a1 len1 cap1 z1) :
    Calls Try.prog 16 #[.slice a0 len0 cap0, .slice a1 len1 cap1] w fun e w' => e = .returned (.bool true) ∧ Below w.heap.size w w' := by
  cases hl : (decide (1048576 < len0) || decide (1048576 < len1)) with
  | true => exact circles_yes a0 len0 cap0 z0 a1 len1 cap1 z1 w h0 h1 hl
  | false => exact circles_no a0 len0 cap0 z0 a1 len1 cap1 z1 w h0 h1 hl
end Go.Proofs.Ytigcnipgmjmenaa.Cc
