/- FnNumbers: the functions that the law calls, told for the law. FnNumbers: the walk of the law. -/
import Derived.Test.YtpfjcfhgckpjmaaGreatDoorFd
import Derived.Test.YtpfjcfhgckpjmaaGreatDoorSf
import Derived.Test.YtpfjcfhgckpjmaaGreatDoorQFnExactReadNumbersx5
import Derived.Test.YtpfjcfhgckpjmaaGreatDoorRq
import Derived.Deep.CutBlock
set_option linter.unusedVariables false
set_option linter.unusedSimpArgs false
namespace Go.Proofs.YtpfjcfhgckpjmaaGreatDoor.Nw
open Go.Fl Go.RowKit Ieee Go.Proofs.YtpfjcfhgckpjmaaGreatDoor Go.Proofs.YtpfjcfhgckpjmaaGreatDoor.Cw Go.Proofs.YtpfjcfhgckpjmaaGreatDoorW.PrintWords
theorem b10at_0_12 (a : Option Addr) (len cap : Nat) (zs : List Int) (w : World) (h : IsRow .u8 w a len cap zs) :
    Calls Tryz.prog 11 #[.slice a len cap, .int .i64 0, .int .i64 12] w (AtN 12 w) := by
  obtain ⟨hl, hll, hm⟩ := h.len
  unfold maxLen at hm
  rcases h with ⟨rfl, rfl, rfl, rfl⟩ | ⟨x, rfl, h1, h2, h3, h4, h5⟩
  · go_enter Tryz.func11, Tryz.ntmps11
    go_wp2
    go_ret
    exact ⟨11, by omega, rfl, 0, rfl⟩
  · by_cases h0 : len ≤ 0
    · have hlt : ¬ (0 : Int) < len := by omega
      clear h2 h3 h4 h5 hl
      go_enter Tryz.func11, Tryz.ntmps11
      go_wp2
      go_ret
      exact ⟨11, by omega, rfl, 0, rfl⟩
    · have hc := h4 0 (by omega)
      have hw := h5 (zs.getD 0 0) (by
        rw [List.getD_eq_getElem?_getD, List.getElem?_eq_getElem (by omega)]
        simp)
      obtain ⟨z, hz⟩ : ∃ z, z = zs.getD 0 0 := ⟨_, rfl⟩
      rw [← hz] at hc hw
      obtain ⟨p1, p2⟩ := Bool.and_eq_true_iff.1 (show (decide (IntKind.u8.min ≤ z) && decide (z ≤ IntKind.u8.max)) = true from hw)
      have hz0 : 0 ≤ z ∧ z ≤ 255 := ⟨of_decide_eq_true p1, of_decide_eq_true p2⟩
      clear p1 p2
      have hc2 : w.cell? x = some (.int .u8 z) := by simpa [Addr.add] using hc
      have hlt : (0 : Int) < len := by omega
      have hlt2 : 0 < len := by omega
      clear h2 h3 h4 h5 h0 hl hz hw
      go_enter Tryz.func11, Tryz.ntmps11
      go_wp2
      go_ret
      exact ⟨(z % 12).toNat, by omega, ret_int (show z % 12 = _ by omega), 0, rfl⟩

theorem b10at_0_9 (a : Option Addr) (len cap : Nat) (zs : List Int) (w : World) (h : IsRow .u8 w a len cap zs) :
    Calls Tryz.prog 11 #[.slice a len cap, .int .i64 0, .int .i64 9] w (AtN 9 w) := by
  obtain ⟨hl, hll, hm⟩ := h.len
  unfold maxLen at hm
  rcases h with ⟨rfl, rfl, rfl, rfl⟩ | ⟨x, rfl, h1, h2, h3, h4, h5⟩
  · go_enter Tryz.func11, Tryz.ntmps11
    go_wp2
    go_ret
    exact ⟨2, by omega, rfl, 0, rfl⟩
  · by_cases h0 : len ≤ 0
    · have hlt : ¬ (0 : Int) < len := by omega
      clear h2 h3 h4 h5 hl
      go_enter Tryz.func11, Tryz.ntmps11
      go_wp2
      go_ret
      exact ⟨2, by omega, rfl, 0, rfl⟩
    · have hc := h4 0 (by omega)
      have hw := h5 (zs.getD 0 0) (by
        rw [List.getD_eq_getElem?_getD, List.getElem?_eq_getElem (by omega)]
        simp)
      obtain ⟨z, hz⟩ : ∃ z, z = zs.getD 0 0 := ⟨_, rfl⟩
      rw [← hz] at hc hw
      obtain ⟨p1, p2⟩ := Bool.and_eq_true_iff.1 (show (decide (IntKind.u8.min ≤ z) && decide (z ≤ IntKind.u8.max)) = true from hw)
      have hz0 : 0 ≤ z ∧ z ≤ 255 := ⟨of_decide_eq_true p1, of_decide_eq_true p2⟩
      clear p1 p2
      have hc2 : w.cell? x = some (.int .u8 z) := by simpa [Addr.add] using hc
      have hlt : (0 : Int) < len := by omega
      have hlt2 : 0 < len := by omega
      clear h2 h3 h4 h5 h0 hl hz hw
      go_enter Tryz.func11, Tryz.ntmps11
      go_wp2
      go_ret
      exact ⟨(z % 9).toNat, by omega, ret_int (show z % 9 = _ by omega), 0, rfl⟩


theorem same15 (a b : Nat) (ha : a < 4294967296) (hb : b < 4294967296) (w : World) : Calls Tryz.prog 15 #[.float .f32 a, .float .f32 b] w fun e w' => e = .returned (.bool (decide (bitsV (val .f32 a) = bitsV (val .f32 b)))) ∧ w = w' := by
  have h1 := fun W => specBits a ha W
  have h2 := fun W => specBits b hb W
  have hs : ∀ W, Calls Tryz.prog 52 #[.float .f32 a, .float .f32 b] W fun e w' => e = .returned (.bool (decide (bitsV (val .f32 a) = bitsV (val .f32 b)))) ∧ W = w' := by
    intro W
    by_cases hab : a = b
    · subst hab
      generalize bitsV (val .f32 a) = p at *
      go_enter Tryz.func52, Tryz.ntmps52
      go_wp2_with (first | (go_at_call 78; ((with_reducible refine (h1 _).mono ?_); rintro e w' ⟨rfl, rfl⟩)) | (go_at_call 78; ((with_reducible refine (h2 _).mono ?_); rintro e w' ⟨rfl, rfl⟩)))
      go_ret
      exact ⟨by simp, rfl⟩
    · generalize bitsV (val .f32 a) = p at *
      generalize bitsV (val .f32 b) = q at *
      go_enter Tryz.func52, Tryz.ntmps52
      go_wp2_with (first | (go_at_call 78; ((with_reducible refine (h1 _).mono ?_); rintro e w' ⟨rfl, rfl⟩)) | (go_at_call 78; ((with_reducible refine (h2 _).mono ?_); rintro e w' ⟨rfl, rfl⟩)))
      go_ret
      exact ⟨rfl, rfl⟩
  go_enter Tryz.func15, Tryz.ntmps15
  go_wp2_with (go_at_call 52; refine (hs _).mono ?_; rintro e w' ⟨rfl, rfl⟩)
  go_ret
  exact ⟨rfl, rfl⟩
theorem bits8 (b : Nat) (hb : b < 4294967296) (w : World) : Calls Tryz.prog 8 #[.float .f32 b] w fun e w' => e = .returned (.int .i64 (bitsV (val .f32 b))) ∧ ∃ n, w' = w.drewN n := by
  have h := QFnExactReadNumbers.impl_BitsOf.calls (b : Int) (bitsV (val .f32 b)) w (by unfold QFnExactReadNumbers.impl_BitsOf.f; rw [if_pos (by omega)]; rfl)
  refine h.mono ?_
  rintro e w' ⟨rfl, ⟨n, rfl⟩⟩
  exact ⟨rfl, n, rfl⟩
theorem narrow19 (b r : Nat) (hb : b < 4294967296) (hr : Is .f64 r (widen (val .f32 b))) (w : World) : Calls Tryz.prog 19 #[.float .f64 r] w (Post32 (val .f32 b) w) := by
  obtain ⟨h1, h2⟩ := Lw.narrow_wide hb
  have H := Lib.hid h2
  go_enter Tryz.func19, Tryz.ntmps19
  go_wp2_with (refine wpList_na _ _ _ rfl rfl _ rfl (by kernel_rfl) (by kernel_rfl) hr H.out ?_; intro r n hr)
  go_ret
  exact h1 ▸ Post32.mk (by assumption)
theorem angle18 (x y : Nat) (hx : x < 4294967296) (hy : y < 4294967296) (w : World) : Calls Tryz.prog 18 #[.complex .f32 x y] w (Post32 (angS y x) w) := by
  have hc := fun W => implAngle45 y x hy hx W
  go_enter Tryz.func18, Tryz.ntmps18
  go_wp2_with (go_at_call 17; ((with_reducible refine (hc _).mono ?_); rintro e w' ⟨r, n, rfl, hr, rfl⟩))
  go_ret
  exact Post32.mk (by assumption)
/-- The sum of the first i numbers of a list, from left to right. -/
def sumTo (ys : List Int) (i : Nat) : Option Nat := (ys.take i).foldl (fun v y => fop .add .f32 v (val .f32 y.toNat)) (some 0)
theorem sumTo_succ (ys : List Int) (i : Nat) (h : i < ys.length) : sumTo ys (i + 1) = fop .add .f32 (sumTo ys i) (val .f32 (rd ys i).toNat) := by
  unfold sumTo
  have : ys.take (i + 1) = ys.take i ++ [rd ys i] := by
    rw [List.take_succ_eq_append_getElem h]
    congr 2
    unfold rd
    simp [List.getD_eq_getElem?_getD, h]
  rw [this, List.foldl_append]
  rfl
theorem up40 (i n : Nat) (h : i + 1 ≤ n) (hn : n ≤ 40) : wrap64 ((i : Int) + 1) = ((i + 1 : Nat) : Int) := by unfold wrap64; omega
theorem at_is {w : World} {A : Option Addr} {ys : List Int} (hC : Ft.Kf.C w A ys.length ys) (i : Nat) (hi : i < ys.length) : ∃ ad, A = some ad ∧ w.cell? (ad.add i) = some (.float .f32 (rd ys i).toNat) := Ft.at_flt hC (i : Int) (by omega) (by omega)
set_option maxRecDepth 100000 in
theorem sum12 (A : Option Addr) (cap : Nat) (ys : List Int) (w : World) (hl : ys.length ≤ 40) (hcap : ys.length ≤ cap) (hC : Ft.Kf.C w A ys.length ys) :
    Calls Tryz.prog 12 #[.slice A ys.length cap] w fun e w' => ∃ r m, e = .returned (.tuple #[.float .f32 r, .bool true]) ∧ Is .f32 r (sumTo ys ys.length) ∧ w' = w.drewN m := by
  have HC := Lib.hid hC
  have HL := Lib.hid hl
  have hgt : ¬ ((ys.length : Nat) : Int) > 256 := by omega
  clear hC
  go_enter Tryz.func12, Tryz.ntmps12
  go_wp2
  go_loopg [4, 12] ys.length (fun q v4 v12 w' => ∃ i : Nat, Hid (i + q = ys.length) ∧ v12 = .int .i64 (i : Nat) ∧ (∃ r, v4 = .float .f32 r ∧ Hid (Is .f32 r (sumTo ys i))) ∧ ∃ m, w' = w.drewN m)
  case atStart => exact ⟨0, Lib.hid (by omega), rfl, ⟨0, rfl, Lib.hid (Is.const32 (by decide))⟩, 0, rfl⟩
  case round =>
    obtain ⟨i, hi, rfl, ⟨r, rfl, hr⟩, m, rfl⟩ := hrel
    cases gk with
    | zero =>
      obtain rfl : i = ys.length := by have := hi.out; omega
      go_wp2
      go_ret2
      exact ⟨_, _, rfl, hr.out, rfl⟩
    | succ q =>
      have hlt : i < ys.length := by have := hi.out; omega
      have hlt2 : (i : Int) < (ys.length : Int) := by omega
      obtain ⟨ad, rfl, hc⟩ := at_is HC.out i hlt
      have hw := up40 i ys.length (by omega) HL.out
      go_wp2_with (refine Go.Fl.wpList_farith _ _ _ _ _ rfl rfl rfl _ _ _ rfl rfl ?_; intro rS nS hS)
      go_roundg q
      case measure => omega
      case rel => exact ⟨i + 1, Lib.hid (by have := hi.out; omega), rfl, ⟨_, rfl, Lib.hid (by rw [sumTo_succ ys i hlt, ← hr.out.1]; exact hS)⟩, _, rfl⟩
end Go.Proofs.YtpfjcfhgckpjmaaGreatDoor.Nw
set_option linter.unusedVariables false
set_option linter.unusedSimpArgs false
namespace Go.Proofs.YtpfjcfhgckpjmaaGreatDoor.Nn
open Go.Fl Go.RowKit Ieee Go.Proofs.YtpfjcfhgckpjmaaGreatDoor Go.Proofs.YtpfjcfhgckpjmaaGreatDoor.Cw Go.Proofs.YtpfjcfhgckpjmaaGreatDoor.Sr Go.Proofs.YtpfjcfhgckpjmaaGreatDoor.Nw Go.Proofs.YtpfjcfhgckpjmaaGreatDoorW.PrintWords
theorem from7 (b : Nat) (hb : b < 4294967296) (w : World) : Calls Tryz.prog 7 #[.int .i64 (bitsV (val .f32 b))] w fun e w' => e = .returned (.tuple #[.float .f32 (bitsV (val .f32 b)).toNat, .bool true]) ∧ w = w' := by
  have h := implFromBits (bitsV (val .f32 b)) w
  rw [if_pos (Lw.bitsV_range b hb), decide_eq_true (Lw.bitsV_range b hb)] at h
  exact h
open Rp.FnExactReadNumbersParts in
theorem read_list (ys : List Int) (hok : okS ys) (hn : ys.length ≤ 40) : ∃ (t : ByteArray) (ds : List Int), QFnExactReadNumbers.impl_NumbersText.f 400 ys = some (t, true) ∧ QFnExactReadNumbers.impl_ReadNumbers.f 600 t = some (ds, true) ∧ ds.length = ys.length ∧ ∀ i, i < ys.length → rd ds i = bitsV (val .f32 (rd ys i).toNat) := by
  obtain ⟨t, h1, h2⟩ := read_text ys hok hn
  refine ⟨t, _, h1, h2, List.length_map _, fun i hi => ?_⟩
  have hm : ys[i] ∈ ys := List.getElem_mem hi
  have e1 : rd (ys.map nb) i = nb ys[i] := by
    unfold rd
    simp [List.getD_eq_getElem?_getD, hi]
  have e2 : rd ys i = ys[i] := by
    unfold rd
    simp [List.getD_eq_getElem?_getD, hi]
  rw [e1, e2, nb_is _ (hok _ hm)]
theorem same_val (a b : Nat) (ha : a < 4294967296) (hb : b < 4294967296) (h : val .f32 a = val .f32 b) (w : World) : Calls Tryz.prog 15 #[.float .f32 a, .float .f32 b] w fun e w' => e = .returned (.bool true) ∧ w = w' := by
  have := same15 a b ha hb w
  rw [h, decide_eq_true rfl] at this
  exact this
theorem same_back (x : Nat) (hx : x < 4294967296) (w : World) : Calls Tryz.prog 15 #[.float .f32 (bitsV (val .f32 x)).toNat, .float .f32 x] w fun e w' => e = .returned (.bool true) ∧ w = w' := by
  have hr := Lw.bitsV_range x hx
  have := same15 (bitsV (val .f32 x)).toNat x (by omega) hx w
  rw [Lw.val_back x, decide_eq_true rfl] at this
  exact this
theorem sub_flush (x z : Nat) (hz : Is .f32 z (flushV x)) (w : World) : Calls Tryz.prog 16 #[.float .f32 z] w fun e w' => e = .returned (.bool false) ∧ ∃ n, w' = w.drewN n := by
  have := implSub z w
  rw [Lw.flush_no hz.1] at this
  exact this
theorem sub_or (x z : Nat) (hx : x < 4294967296) (hz : Is .f32 z (flushV x)) : ∃ c, subB x = c ∧ decide (bitsV (val .f32 x) = bitsV (val .f32 z)) = !c := by
  have := Lw.flush_same hx hz.1
  refine ⟨_, rfl, ?_⟩
  generalize subB x = p at this ⊢
  generalize decide (bitsV (val .f32 x) = bitsV (val .f32 z)) = q at this ⊢
  cases p <;> cases q <;> simp_all
theorem sine20 (w : World) : Calls Tryz.prog 20 #[.float .f32 1048576000] w fun e w' => e = .returned (.float .f32 1065353216) ∧ ∃ n, w' = w.drewN n := by
  refine (implSine35 1048576000 (by decide) w).mono ?_
  rintro e w' ⟨r, n, rfl, hr, rfl⟩
  rw [Lw.sine_quarter] at hr
  obtain ⟨rfl, -⟩ := hr.some
  exact ⟨rfl, n, rfl⟩
theorem okS_rd {ys : List Int} (h : okS ys) (i : Nat) (hi : i < ys.length) : 0 ≤ rd ys i ∧ rd ys i < 4294967296 := by
  have e2 : rd ys i = ys[i] := by
    unfold rd
    simp [List.getD_eq_getElem?_getD, hi]
  rw [e2]
  exact h _ (List.getElem_mem hi)
theorem same_at (ys ds : List Int) (i : Nat) (hok : okS ys) (hdi : ∀ i : Nat, i < ys.length → rd ds i = bitsV (val .f32 (rd ys i).toNat)) (h : i < ys.length) (W : World) : Calls Tryz.prog 15 #[.float .f32 (rd ds i).toNat, .float .f32 (rd ys i).toNat] W fun e w' => e = .returned (.bool true) ∧ w' = W := by
  have := same_back (rd ys i).toNat (by have := okS_rd hok i h; omega) W
  rw [← hdi i h] at this
  exact this.mono fun e w' hh => ⟨hh.1, hh.2.symm⟩
theorem IsRow.at_ {k : IntKind} {w w' : World} {a : Option Addr} {len cap : Nat} {zs : List Int} (h : IsRow k w a len cap zs) (B : Below w.heap.size w w') : IsRow k w' a len cap zs := h.below B
theorem on {w w1 w2 : World} (B : Below w.heap.size w w1) (C : Below w1.heap.size w1 w2) : Below w.heap.size w w2 := below_step B C
theorem ond {w w1 : World} (B : Below w.heap.size w w1) (n : Nat) : Below w.heap.size w (w1.drewN n) := pw_below_drewN B n
set_option maxHeartbeats 8000000 in
set_option maxRecDepth 100000 in
theorem numbers_no (a0 : Option Addr) (len0 cap0 : Nat) (z0 : List Int) (a1 : Option Addr) (len1 cap1 : Nat) (z1 : List Int) (w : World) (h0 : IsRow .u8 w a0 len0 cap0 z0) (h1 : IsRow .u8 w a1 len1 cap1 z1) (hs : Hs.HS w)
    (hl : (decide (1048576 < len0) || decide (1048576 < len1)) = false) :
    Calls Tryz.prog 3 #[.slice a0 len0 cap0, .slice a1 len1 cap1] w fun e w' => e = .returned (.bool true) ∧ Below w.heap.size w w' := by
  have c0 := long30 a0 len0 cap0 a1 len1 cap1 (by have := h0.len; omega) (by have := h1.len; omega) w
  rw [hl] at c0
  have HR0 := Lib.hid h0
  have HR1 := Lib.hid h1
  have HT := Lib.hid hs
  have C0 := Lib.hid c0
  clear h0 h1 hs hl c0
  go_enter Tryz.func3, Tryz.ntmps3
  have B := Lib.hid (Below.refl w.heap.size w)
  go_upto_region 3 with (go_at_call 5; (with_reducible refine C0.out.mono ?_); rintro e w' ⟨rfl, rfl⟩)
  go_upto_region 5 with (first | (go_at_call 6; (with_reducible refine (number6 (IsRow.at_ HR0.out (by first | exact B.out | exact pw_below_drewN B.out _))).mono ?_); rintro e w1 ⟨x, hx0, rfl, b1⟩; have hx := Lib.hid hx0; have B0 := Lib.hid (on (by first | exact B.out | exact pw_below_drewN B.out _) b1); clear B; have B := B0; clear B0; clear hx0 b1) | (go_at_call 6; (with_reducible refine (number6 (IsRow.at_ HR1.out (by first | exact B.out | exact pw_below_drewN B.out _))).mono ?_); rintro e w1 ⟨y, hy0, rfl, b1⟩; have hy := Lib.hid hy0; have B0 := Lib.hid (on (by first | exact B.out | exact pw_below_drewN B.out _) b1); clear B; have B := B0; clear B0; clear hy0 b1))
  go_upto_region 7 with (first | (go_at_call 8; (with_reducible refine (bits8 x hx.out _).mono ?_); rintro e w' ⟨rfl, n1, rfl⟩) | (go_at_call 7; (with_reducible refine (from7 x hx.out _).mono ?_); rintro e w' ⟨rfl, rfl⟩) | (go_at_call 9; (with_reducible refine (implFlushNumber x hx.out _).mono ?_); rintro e w' ⟨z, n2, rfl, hz0, rfl⟩; have hz := Lib.hid hz0; clear hz0))
  go_upto_region 9 with (first | (go_at_call 11; (with_reducible refine (b10at_0_12 a0 len0 cap0 z0 _ (IsRow.at_ HR0.out (by first | exact B.out | exact pw_below_drewN B.out _))).mono ?_); rintro e w' ⟨m, hm0, rfl, n3, rfl⟩; have hm := Lib.hid hm0; clear hm0) | (go_at_call 10; (with_reducible refine (numbers10 m (by have := hm.out; omega) (IsRow.at_ HR1.out (by first | exact B.out | exact pw_below_drewN B.out _))).mono ?_); rintro e w3 ⟨v, ys, rfl, hR0, hlen0, hok0, b3⟩; obtain ⟨A, cp, rfl⟩ := Kd.R_slice hR0; have hC := Lib.hid (Kd.R_reads' hR0).2.2; have hcp := Lib.hid (Kd.R_reads' hR0).2.1; have hlen := Lib.hid (show ys.length ≤ 40 by have := hm.out; omega); have hok := Lib.hid hok0; have B0 := Lib.hid (on (by first | exact B.out | exact pw_below_drewN B.out _) b3); clear B; have B := B0; clear B0; clear hR0 hlen0 hok0 b3))
  go_wp2
  go_loopg [11, 41] ys.length (fun q v11 v41 w' => ∃ i : Nat, Hid (i + q = ys.length) ∧ v41 = .int .i64 (i : Nat) ∧ (∃ r, v11 = .float .f32 r ∧ Hid (Is .f32 r (sumTo ys i))) ∧ ∃ m, w' = w3.drewN m)
  case atStart => exact ⟨0, Lib.hid (by omega), rfl, ⟨0, rfl, Lib.hid (Is.const32 (by decide))⟩, 0, rfl⟩
  case round =>
    obtain ⟨i, hi, rfl, ⟨r, rfl, hr⟩, n4, rfl⟩ := hrel
    cases gk with
    | succ q =>
      have hlt : i < ys.length := by have := hi.out; omega
      have hlt2 : (i : Int) < (ys.length : Int) := by omega
      obtain ⟨ad, rfl, hc⟩ := at_is hC.out i hlt
      have hw := up40 i ys.length (by omega) hlen.out
      go_wp2_with (refine Go.Fl.wpList_farith _ _ _ _ _ rfl rfl rfl _ _ _ rfl rfl ?_; intro rS nS hS)
      go_roundg q
      case measure => omega
      case rel => exact ⟨i + 1, Lib.hid (by have := hi.out; omega), (by first | rfl | exact congrArg (Value.int .i64) hw), ⟨_, rfl, Lib.hid (by rw [sumTo_succ ys i hlt, ← hr.out.1]; exact hS)⟩, _, rfl⟩
    | zero =>
      obtain rfl : i = ys.length := by have := hi.out; omega
      clear hi
      go_upto_region 14 with (fail)
      obtain ⟨t, ds, ht1, ht2, hdl0, hdi0⟩ := read_list ys hok.out hlen.out
      have T1 := Lib.hid ht1
      have T2 := Lib.hid ht2
      have hdl := Lib.hid hdl0
      have hdi := Lib.hid hdi0
      clear ht1 ht2 hdl0 hdi0
      go_upto_region 17 with (first | (go_at_call 12; (with_reducible refine (sum12 A cp ys _ hlen.out hcp.out (by first | exact hC.out | exact Kd.C_drewN hC.out _)).mono ?_); rintro e w' ⟨got, n5, rfl, hg0, rfl⟩; have hgot := Lib.hid hg0; clear hg0) | (go_at_call 13; (with_reducible refine (QFnExactReadNumbers.impl_NumbersText.calls 400 A cp ys t true _ (HT.out.below (by first | exact B.out | exact pw_below_drewN B.out _)) (by first | exact hC.out | exact Kd.C_drewN hC.out _) hcp.out T1.out).mono ?_); rintro e w4 ⟨rfl, b4⟩; have hC4 := Lib.hid (Kd.C_below (by first | exact hC.out | exact Kd.C_drewN hC.out _) b4); clear hC; have hC := hC4; clear hC4; have B0 := Lib.hid (on (by first | exact B.out | exact pw_below_drewN B.out _) b4); clear B; have B := B0; clear B0; clear b4) | (go_at_call 14; (with_reducible refine (QFnExactReadNumbers.impl_ReadNumbers.calls 600 t ds true _ (HT.out.below (by first | exact B.out | exact pw_below_drewN B.out _)) T2.out).mono ?_); rintro e w5 ⟨v5, rfl, hR5, b5⟩; obtain ⟨A5, cp5, rfl⟩ := Kd.R_slice hR5; have hD := Lib.hid (Kd.R_reads' hR5).2.2; have hcp5 := Lib.hid (Kd.R_reads' hR5).2.1; rw [hdl.out]; have hC4 := Lib.hid (Kd.C_below (by first | exact hC.out | exact Kd.C_drewN hC.out _) b5); clear hC; have hC := hC4; clear hC4; have B0 := Lib.hid (on (by first | exact B.out | exact pw_below_drewN B.out _) b5); clear B; have B := B0; clear B0; clear b5 hR5))
      obtain ⟨c, hc1, hc2⟩ := sub_or x z hx.out hz.out
      have SX := Lib.hid hc1
      have SZ := Lib.hid hc2
      have hzl := Lib.hid (show z < 4294967296 from hz.out.2)
      have hgl := Lib.hid (show got < 4294967296 from hgot.out.2)
      have hrl := Lib.hid (show r < 4294967296 from hr.out.2)
      have hgr := Lib.hid (show val .f32 got = val .f32 r from hgot.out.1.trans hr.out.1.symm)
      clear hc1 hc2
      go_upto_region 19 with (first | (go_at_call 15; (with_reducible refine (same_back x hx.out _).mono ?_); rintro e w' ⟨rfl, rfl⟩) | (go_at_call 16; (with_reducible refine (sub_flush x z hz.out _).mono ?_); rintro e w' ⟨rfl, n6, rfl⟩) | (go_at_call 16; (with_reducible refine (implSub x _).mono ?_); rintro e w' ⟨rfl, n7, rfl⟩; rw [SX.out]) | (go_at_call 15; (with_reducible refine (same15 x z hx.out hzl.out _).mono ?_); rintro e w' ⟨rfl, rfl⟩; rw [SZ.out]) | (go_at_call 15; (with_reducible refine (same_val got r hgl.out hrl.out hgr.out _).mono ?_); rintro e w' ⟨rfl, rfl⟩))
      go_wp2
      go_loopg [113] ys.length (fun q v113 w' => ∃ i : Nat, Hid (i + q = ys.length) ∧ v113 = .int .i64 (i : Nat) ∧ ∃ m, w' = w5.drewN m)
      case atStart => exact ⟨0, Lib.hid (by omega), rfl, _, (by first | rfl | exact (World.drewN_zero _).symm)⟩
      case round =>
        obtain ⟨i, hi, rfl, n9, hwr⟩ := hrel
        cases gk with
        | succ q =>
          have hlt : i < ys.length := by have := hi.out; omega
          have hlt2 : (i : Int) < (ys.length : Int) := by omega
          obtain ⟨ad, rfl, hc⟩ := at_is hC.out i hlt
          obtain ⟨ad5, rfl, hc5⟩ := at_is hD.out i (by rw [hdl.out]; exact hlt)
          have hca : wr.cell? (ad.add i) = some (.float .f32 (rd ys i).toNat) := by rw [hwr]; exact hc
          have hcb : wr.cell? (ad5.add i) = some (.float .f32 (rd ds i).toNat) := by rw [hwr]; exact hc5
          have HW := Lib.hid hwr
          clear hwr hc hc5
          have hw := up40 i ys.length (by omega) hlen.out
          have hq := Lib.hid (same_at ys ds i hok.out hdi.out hlt)
          go_wp2
          go_quiet ((go_at_call 15; with_reducible refine Calls.quiet_of_same (hq.out _)))
          go_wp2
          go_roundg q
          case measure => omega
          case rel => exact ⟨i + 1, Lib.hid (by have := hi.out; omega), (by first | rfl | exact congrArg (Value.int .i64) hw), _, (by rw [HW.out, World.drewN_drewN])⟩
        | zero =>
          obtain rfl : i = ys.length := by have := hi.out; omega
          clear hi
          subst hwr
          go_upto_region 25 with (fail)
          clear hC hD hcp hcp5 hdi hdl T1 T2 SX SZ hzl hgl hrl hgr hgot hr
          have hIx : Is .f32 x (val .f32 x) := Is.of_lt hx.out
          have HQ : Hid (cmpV .eql .f32 (some 1065353216) (some 1065353216) = true) := Lib.hid (by decide +kernel)
          go_wp2_with (first | (go_at_call 17; (with_reducible refine (implAngle45 y x hy.out hx.out _).mono ?_); rintro e w' ⟨p1, m1, rfl, hp1, rfl⟩) | (go_at_call 18; (with_reducible refine (angle18 x y hx.out hy.out _).mono ?_); rintro e w' ⟨p2, m2, rfl, hp2, rfl⟩; have hA1 := Lib.hid (show p1 < 4294967296 from hp1.2); have hA2 := Lib.hid (show p2 < 4294967296 from hp2.2); have hA3 := Lib.hid (show val .f32 p1 = val .f32 p2 from hp1.1.trans hp2.1.symm); clear hp1 hp2) | (go_at_call 15; (with_reducible refine (same_val p1 p2 hA1.out hA2.out hA3.out _).mono ?_); rintro e w' ⟨rfl, rfl⟩) | (refine wpList_wi _ _ _ rfl rfl _ rfl (by kernel_rfl) (by kernel_rfl) hIx ?_; intro rw_ nw_ hrw) | (go_at_call 19; (with_reducible refine (narrow19 x rw_ hx.out hrw _).mono ?_); rintro e w' ⟨p3, m3, rfl, hp3, rfl⟩; have hB1 := Lib.hid (show p3 < 4294967296 from hp3.2); have hB2 := Lib.hid (show val .f32 p3 = val .f32 x from hp3.1); clear hp3) | (go_at_call 15; (with_reducible refine (same_val p3 x hB1.out hx.out hB2.out _).mono ?_); rintro e w' ⟨rfl, rfl⟩) | (go_at_call 20; (with_reducible refine (sine20 _).mono ?_); rintro e w' ⟨rfl, m4, rfl⟩) | (refine wpList_cmd _ _ _ _ _ rfl rfl rfl _ _ _ rfl rfl (Is.const32 (by decide +kernel)) (Is.const32 (by decide +kernel)) HQ.out ?_))
          go_ret
          exact ⟨rfl, (by first | exact B.out | exact pw_below_drewN B.out _)⟩
set_option maxRecDepth 100000 in
theorem numbers_yes (a0 : Option Addr) (len0 cap0 : Nat) (z0 : List Int) (a1 : Option Addr) (len1 cap1 : Nat) (z1 : List Int) (w : World) (h0 : IsRow .u8 w a0 len0 cap0 z0) (h1 : IsRow .u8 w a1 len1 cap1 z1)
    (hl : (decide (1048576 < len0) || decide (1048576 < len1)) = true) :
    Calls Tryz.prog 3 #[.slice a0 len0 cap0, .slice a1 len1 cap1] w fun e w' => e = .returned (.bool true) ∧ Below w.heap.size w w' := by
  have c0 := long30 a0 len0 cap0 a1 len1 cap1 (by have := h0.len; omega) (by have := h1.len; omega) w
  rw [hl] at c0
  have C0 := Lib.hid c0
  clear c0 h0 h1 hl
  go_enter Tryz.func3, Tryz.ntmps3
  go_wp2_with (go_at_call 5; (with_reducible refine C0.out.mono ?_); rintro e w' ⟨rfl, rfl⟩)
  go_ret
  exact ⟨rfl, Below.refl _ _⟩
/-- For every input the law answers true, and nothing elder is changed. -/
theorem numbersWalk (a0 : Option Addr) (len0 cap0 : Nat) (z0 : List Int) (a1 : Option Addr) (len1 cap1 : Nat) (z1 : List Int) (w : World) (h0 : IsRow .u8 w a0 len0 cap0 z0) (h1 : IsRow .u8 w a1 len1 cap1 z1) (hs : Hs.HS w) :
    Calls Tryz.prog 3 #[.slice a0 len0 cap0, .slice a1 len1 cap1] w fun e w' => e = .returned (.bool true) ∧ Below w.heap.size w w' := by
  cases hl : (decide (1048576 < len0) || decide (1048576 < len1)) with
  | true => exact numbers_yes a0 len0 cap0 z0 a1 len1 cap1 z1 w h0 h1 hl
  | false => exact numbers_no a0 len0 cap0 z0 a1 len1 cap1 z1 w h0 h1 hs hl
end Go.Proofs.YtpfjcfhgckpjmaaGreatDoor.Nn
