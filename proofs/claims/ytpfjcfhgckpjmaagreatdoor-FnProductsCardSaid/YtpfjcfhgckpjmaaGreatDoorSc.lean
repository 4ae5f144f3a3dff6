/- The drawing of complex numbers and of lists of them. -/
import Derived.Test.YtpfjcfhgckpjmaaGreatDoorSf
import Derived.Test.YtpfjcfhgckpjmaaGreatDoorHc
set_option linter.unusedVariables false
set_option linter.unusedSimpArgs false
namespace Go.Proofs.YtpfjcfhgckpjmaaGreatDoor.Sr
open Go.Fl Go.RowKit Ieee Go.Proofs.YtpfjcfhgckpjmaaGreatDoor Go.Proofs.YtpfjcfhgckpjmaaGreatDoorW.PrintWords Go.Proofs.YtpfjcfhgckpjmaaGreatDoorW.PrintLast Go.Proofs.YtpfjcfhgckpjmaaGreatDoorW.PrintMore
theorem info42 : (Tryz.prog.info? 42).map (fun i => (i.zero, i.size, i.bytes)) = some (some (.complex .f32 0 0), 1, 8) := by kernel_rfl
section
variable {w0 w w1 : World} {b : Nat} {a : Option Addr} {len cap : Nat} {zs : List Int} {h : Nat}
theorem St.appc {base : Nat} {ok : Nat → Prop} {v : Value} {ys : List Int} (s : St w0 w b a len cap zs h) (hR : Hc.Kc.R 42 w base ok v ys) (hb : b < base ∧ w0.heap.size ≤ base) (hg : w.grownBy w1 v.ownBlock) : St w0 w1 b a len cap zs h := by
  cases e : v.ownBlock with
  | none => rw [e] at hg; exact s.step (.inl hg)
  | some k =>
    rw [e] at hg
    have := Kd.R_base hR k e
    exact s.step (.inr ⟨k, by omega, by omega, hg⟩)
end
theorem small8 (ys : List Int) {q n : Nat} (hl : ys.length + q = n) (hn : n ≤ 40) : (ys.length + 1) * 8 ≤ 140737488355328 := by omega
theorem hgt4c (q n h : Nat) (hn : n ≤ 40) {l : Nat} (e : l + (q + 1) = n) : h + 2 + 32 * (n - (q + 1)) + 4 ≤ h + 2 + 32 * (n - q) := by omega
theorem hgt32 (q n h : Nat) (hn : n ≤ 40) {l : Nat} (e : l + (q + 1) = n) : h + 2 + 32 * (n - (q + 1)) + 32 ≤ h + 2 + 32 * (n - q) := by omega
/-- A list of complex numbers, each of two singles. -/
def okC (ys : List Int) : Prop := ∀ y ∈ ys, Hc.re y < 4294967296 ∧ Hc.im y < 4294967296
theorem okC_snoc {ys : List Int} {p p2 : Nat} (h : okC ys) (hp : p < 4294967296) (hp2 : p2 < 4294967296) : okC (ys ++ [Hc.cx (p : Int) (p2 : Int)]) := by
  intro y hy
  rcases List.mem_append.1 hy with hy | hy
  · exact h y hy
  · rw [List.mem_singleton] at hy
    subst hy
    rw [Hc.re_cx, Hc.im_cx]
    exact ⟨hp, hp2⟩
def Cp (w0 : World) (b : Nat) (a : Option Addr) (len cap : Nat) (zs : List Int) (h : Nat) (e : Ending) (w' : World) : Prop := ∃ p q : Nat, p < 4294967296 ∧ q < 4294967296 ∧ e = .returned (.complex .f32 p q) ∧ St w0 w' b a len cap zs h
set_option maxRecDepth 100000 in
theorem complex63 {w0 w : World} {b : Nat} {a : Option Addr} {len cap : Nat} {zs : List Int} {h : Nat} (S : St w0 w b a len cap zs h) (hh : h < 1099511626000) : Calls Tryz.prog 63 #[.pointer (some ⟨b, 0, none⟩)] w (Cp w b a len cap zs (h + 32)) := by
  have C1 := float42 S (by omega)
  go_enter Tryz.func63, Tryz.ntmps63
  go_wp2_with (first | (go_at_call 42; (with_reducible refine C1.mono ?_); rintro e w' ⟨p, hp, rfl, S1⟩; have C2 := float42 S1 (by omega)) | (go_at_call 42; (with_reducible refine C2.mono ?_); rintro e w2 ⟨q, hq, rfl, S2⟩))
  go_ret
  exact ⟨_, _, hp, hq, rfl, (S1.tr S2).mono (by omega)⟩
set_option maxRecDepth 100000 in
theorem fine64 {w0 w : World} {b : Nat} {a : Option Addr} {len cap : Nat} {zs : List Int} {h : Nat} (S : St w0 w b a len cap zs h) (hh : h < 1099511627000) : Calls Tryz.prog 64 #[.pointer (some ⟨b, 0, none⟩)] w (Cp w b a len cap zs (h + 4)) := by
  have C1 := pick40 65 (by omega) (by omega) S (by omega)
  go_enter Tryz.func64, Tryz.ntmps64
  go_wp2_with (first | (go_at_call 40; (with_reducible refine C1.mono ?_); rintro e w' ⟨z, hz0, hz1, rfl, S1⟩) | (refine wpList_ar _ _ _ _ _ rfl rfl rfl _ _ _ rfl rfl (by first | with_reducible assumption | exact Is.const64 (by decide +kernel) | exact Is.const32 (by decide +kernel) | exact Is.of_wf (floatOfInt_wf _ _) | exact Is.of_lt (by assumption)) (by first | with_reducible assumption | exact Is.const64 (by decide +kernel) | exact Is.const32 (by decide +kernel) | exact Is.of_wf (floatOfInt_wf _ _) | exact Is.of_lt (by assumption)) ?_; intro r nr hr))
  refine (pick40 65 (by omega) (by omega) (S1.drewN _) (by omega)).mono ?_
  rintro e w2 ⟨z2, hz2, hz3, rfl, S2⟩
  go_wp2_with (refine wpList_ar _ _ _ _ _ rfl rfl rfl _ _ _ rfl rfl (by first | with_reducible assumption | exact Is.const64 (by decide +kernel) | exact Is.const32 (by decide +kernel) | exact Is.of_wf (floatOfInt_wf _ _) | exact Is.of_lt (by assumption)) (by first | with_reducible assumption | exact Is.const64 (by decide +kernel) | exact Is.const32 (by decide +kernel) | exact Is.of_wf (floatOfInt_wf _ _) | exact Is.of_lt (by assumption)) ?_; intro q nq hq)
  go_ret
  exact ⟨_, _, hr.2, hq.2, rfl, (((S1.drewN _).tr S2).drewN _).mono (by omega)⟩
def Rowc (n : Nat) (w : World) (b : Nat) (a : Option Addr) (len cap : Nat) (zs : List Int) (h : Nat) (e : Ending) (w' : World) : Prop :=
  ∃ v ys, e = .returned v ∧ Hc.Kc.R 42 w' w.heap.size (fun k => k ≠ b) v ys ∧ ys.length = n ∧ okC ys ∧ St w w' b a len cap zs h
set_option maxRecDepth 100000 in
theorem complexes62 (n : Nat) (hn0 : n ≤ 40) {w0 w : World} {b : Nat} {a : Option Addr} {len cap : Nat} {zs : List Int} {h : Nat} (S : St w0 w b a len cap zs h) (hh : h < 1099511000000) : Calls Tryz.prog 62 #[.pointer (some ⟨b, 0, none⟩), .int .i64 n] w (Rowc n w b a len cap zs (h + 32 * n + 2)) := by
  have hn := Lib.hid hn0
  have hbb := Lib.hid (show b < w.heap.size ∧ w.heap.size ≤ w.heap.size from ⟨S.lt, Nat.le_refl _⟩)
  go_enter Tryz.func62, Tryz.ntmps62
  go_wp2_with (((with_reducible refine gate_dst (N := 7) rfl ?_); refine Kd.R_lit Hc.Kc (w0 := w) w.heap.size 42 ?hg (N := 7) ?hd (xs := ([] : List Int)) (inner := []) (ok := fun k => k ≠ b) (okp := fun k => k ≠ b) ?hr ?hp (fun _ hk => hk) ?hf (Below.refl _ _) (Nat.le_refl _) (by simp) ?_; (case hd => rfl); (case hg => rfl); (case hr => first | (go_simp; done) | (go_simp; rfl)); (case hp => exact (Reps.none _ _)); (case hf => exact ne_new S); intro v1 w1 ho hb1 hg1 hnew))
  have SA : St w w1 b a len cap zs h := S.self.step (.inl hg1)
  refine (one39 5 (by omega) (by omega) SA (by omega)).mono ?_
  rintro e w2 ⟨y, rfl, s2⟩
  have hR := Lib.hid (Kd.R_grown ho s2.grown (fun k hk he => hk (Option.some.inj he)))
  have SB := Lib.hid (SA.tr s2)
  clear SA s2 ho hb1 hg1 hnew
  cases y
  · go_wp2
    go_loopg [1, 5] n (fun q u1 v5 w' => ∃ ys : List Int, u1 = .int .i64 (q : Nat) ∧ Hid (ys.length + q = n) ∧ Hid (okC ys) ∧ Hid (Hc.Kc.R 42 w' w.heap.size (fun k => k ≠ b) v5 ys) ∧ Hid (St w w' b a len cap zs (h + 2 + 32 * (n - q))))
    case atStart => exact ⟨[], rfl, Lib.hid (by simp), Lib.hid (fun y hy => by cases hy), hR, Lib.hid (by have := SB.out; rwa [Nat.sub_self])⟩
    case round =>
      clear hR SB
      obtain ⟨ys, rfl, hlen, hok, hRL, SL⟩ := hrel
      cases gk with
      | zero =>
        have hl := hlen.out
        go_wp2
        go_ret
        exact ⟨_, ys, rfl, hRL.out, by omega, hok.out, SL.out.mono (by omega)⟩
      | succ q =>
        have hq := Lib.hid (show h + 2 + 32 * (n - (q + 1)) < 1099511627000 by have := hn.out; omega)
        have hw := down q (by have := hn.out; have := hlen.out; omega)
        have hpos : (0 : Int) < ((q + 1 : Nat) : Int) := by omega
        have hpos2 : ((q + 1 : Nat) : Int) > 0 := hpos
        go_wp2_with (first | (go_at_call 64; refine (fine64 SL.out (by have := hq.out; omega)).mono ?_; rintro e w4 ⟨p, p2, hp1, hp2, rfl, s2⟩; have hR2 := Lib.hid (Kd.R_grown hRL.out s2.grown (fun k hk he => hk (Option.some.inj he))); have hfr2 := Lib.hid (fresh s2); have hsz2 := Lib.hid (size_le SL.out s2); have hl2 := Lib.hid (small8 ys hlen.out hn.out); have S2 := Lib.hid ((SL.out.tr s2).mono (hgt4c q n h hn.out hlen.out)); have hok2 := Lib.hid (okC_snoc hok.out hp1 hp2); clear s2 hp1 hp2) | ((with_reducible refine gate_builtin (b := .append) (xs := #[.tmp 20, .tmp 23]) rfl ?_); at_builtin; refine Kd.R_append Hc.Kc (w0 := w4) w.heap.size rfl (.tmp 20) (.tmp 23) 45 42 (.complex .f32 0 0) 8 rfl Tryz.underlying45 info42 rfl (by decide) (by omega) u5 ys (Hc.cx (p : Int) (p2 : Int)) [.complex .f32 p p2] (fun k => k ≠ b) (fun _ => False) rfl rfl ?aP (fun _ hk => hk.elim) ?aF ?aO ?aR ?aB ?aL ?_; (case aP => exact Hc.cvl (p : Int) (p2 : Int)); (case aR => exact Below.refl _ _); (case aF => exact hfr2.out); (case aO => exact hR2.out); (case aB => exact hsz2.out); (case aL => exact hl2.out); intro v6 w5 ho5 hb5 hg5 hat5; have S3 := Lib.hid (St.appc S2.out hR2.out hbb.out hg5); have hR3 := Lib.hid ho5; clear ho5 hb5 hg5 hat5))
        go_roundg q
        case measure => omega
        case rel => exact ⟨ys ++ [_], congrArg (Value.int .i64) (wrapq q (by have := hn.out; have := hlen.out; omega)), Lib.hid (by have := hlen.out; simp; omega), hok2, hR3, S3⟩

  · go_wp2
    go_loopg [1, 5] n (fun q u1 v5 w' => ∃ ys : List Int, u1 = .int .i64 (q : Nat) ∧ Hid (ys.length + q = n) ∧ Hid (okC ys) ∧ Hid (Hc.Kc.R 42 w' w.heap.size (fun k => k ≠ b) v5 ys) ∧ Hid (St w w' b a len cap zs (h + 2 + 32 * (n - q))))
    case atStart => exact ⟨[], rfl, Lib.hid (by simp), Lib.hid (fun y hy => by cases hy), hR, Lib.hid (by have := SB.out; rwa [Nat.sub_self])⟩
    case round =>
      clear hR SB
      obtain ⟨ys, rfl, hlen, hok, hRL, SL⟩ := hrel
      cases gk with
      | zero =>
        have hl := hlen.out
        go_wp2
        go_ret
        exact ⟨_, ys, rfl, hRL.out, by omega, hok.out, SL.out.mono (by omega)⟩
      | succ q =>
        have hq := Lib.hid (show h + 2 + 32 * (n - (q + 1)) < 1099511627000 by have := hn.out; omega)
        have hw := down q (by have := hn.out; have := hlen.out; omega)
        have hpos : (0 : Int) < ((q + 1 : Nat) : Int) := by omega
        have hpos2 : ((q + 1 : Nat) : Int) > 0 := hpos
        go_wp2_with (first | (go_at_call 63; refine (complex63 SL.out (by have := hq.out; omega)).mono ?_; rintro e w4 ⟨p, p2, hp1, hp2, rfl, s2⟩; have hR2 := Lib.hid (Kd.R_grown hRL.out s2.grown (fun k hk he => hk (Option.some.inj he))); have hfr2 := Lib.hid (fresh s2); have hsz2 := Lib.hid (size_le SL.out s2); have hl2 := Lib.hid (small8 ys hlen.out hn.out); have S2 := Lib.hid ((SL.out.tr s2).mono (hgt32 q n h hn.out hlen.out)); have hok2 := Lib.hid (okC_snoc hok.out hp1 hp2); clear s2 hp1 hp2) | ((with_reducible refine gate_builtin (b := .append) (xs := #[.tmp 15, .tmp 18]) rfl ?_); at_builtin; refine Kd.R_append Hc.Kc (w0 := w4) w.heap.size rfl (.tmp 15) (.tmp 18) 45 42 (.complex .f32 0 0) 8 rfl Tryz.underlying45 info42 rfl (by decide) (by omega) u5 ys (Hc.cx (p : Int) (p2 : Int)) [.complex .f32 p p2] (fun k => k ≠ b) (fun _ => False) rfl rfl ?aP (fun _ hk => hk.elim) ?aF ?aO ?aR ?aB ?aL ?_; (case aP => exact Hc.cvl (p : Int) (p2 : Int)); (case aR => exact Below.refl _ _); (case aF => exact hfr2.out); (case aO => exact hR2.out); (case aB => exact hsz2.out); (case aL => exact hl2.out); intro v6 w5 ho5 hb5 hg5 hat5; have S3 := Lib.hid (St.appc S2.out hR2.out hbb.out hg5); have hR3 := Lib.hid ho5; clear ho5 hb5 hg5 hat5))
        go_roundg q
        case measure => omega
        case rel => exact ⟨ys ++ [_], congrArg (Value.int .i64) (wrapq q (by have := hn.out; have := hlen.out; omega)), Lib.hid (by have := hlen.out; simp; omega), hok2, hR3, S3⟩

set_option maxRecDepth 100000 in
theorem complex32 {a : Option Addr} {len cap : Nat} {zs : List Int} {w : World} (hr : IsRow .u8 w a len cap zs) :
    Calls Tryz.prog 32 #[.slice a len cap] w fun e w' => ∃ p q : Nat, p < 4294967296 ∧ q < 4294967296 ∧ e = .returned (.complex .f32 p q) ∧ Below w.heap.size w w' := by
  have C := from38 hr
  go_enter Tryz.func32, Tryz.ntmps32
  go_wp2_with (go_at_call 38; refine C.mono ?_; rintro e w1 ⟨rfl, S1⟩)
  refine (one39 4 (by omega) (by omega) S1 (by omega)).mono ?_
  rintro e w2 ⟨y, rfl, S2⟩
  cases y
  · go_wp2_with (go_at_call 64; refine (fine64 S2 (by omega)).mono ?_; rintro e w' ⟨p, q, hp, hq, rfl, S3⟩)
    go_ret
    exact ⟨_, _, hp, hq, rfl, S1.end_ (S2.tr S3)⟩
  · go_wp2_with (go_at_call 63; refine (complex63 S2 (by omega)).mono ?_; rintro e w' ⟨p, q, hp, hq, rfl, S3⟩)
    go_ret
    exact ⟨_, _, hp, hq, rfl, S1.end_ (S2.tr S3)⟩
theorem any29 (n : Nat) (hn0 : n ≤ 40) {a : Option Addr} {len cap : Nat} {zs : List Int} {w : World} (hr : IsRow .u8 w a len cap zs) :
    Calls Tryz.prog 29 #[.slice a len cap, .int .i64 n] w fun e w' => ∃ v ys, e = .returned v ∧ Hc.Kc.R 42 w' w.heap.size (fun _ => True) v ys ∧ ys.length = n ∧ okC ys ∧ Below w.heap.size w w' := by
  have C := from38 hr
  go_enter Tryz.func29, Tryz.ntmps29
  go_wp2_with (go_at_call 38; refine C.mono ?_; rintro e w1 ⟨rfl, S1⟩)
  refine (complexes62 n hn0 S1 (by omega)).mono ?_
  rintro e w2 ⟨v, ys, rfl, hR, hl, hok, S2⟩
  go_wp2
  go_ret
  exact ⟨_, ys, rfl, Kd.R_lower (Kd.R_mono hR (fun _ _ => trivial)) (by have := S1.grown.size; omega), hl, hok, S1.end_ S2⟩
/-- A complex number whose parts are small integers. -/
def whC (y : Int) : Prop := ∃ i j : Int, -200 ≤ i ∧ i ≤ 200 ∧ -200 ≤ j ∧ j ≤ 200 ∧ y = Hc.cx (floatOfInt .f32 i : Nat) (floatOfInt .f32 j : Nat)
theorem wh_one (ys : List Int) (z1 z2 : Int) (h1 : 0 ≤ z1 ∧ z1 < 401) (h2 : 0 ≤ z2 ∧ z2 < 401) (h : ys.length + 1 = 1) : ∀ y ∈ ys ++ [Hc.cx (floatOfInt .f32 (z1 - 200) : Nat) (floatOfInt .f32 (z2 - 200) : Nat)], whC y := by
  obtain rfl : ys = [] := List.length_eq_zero_iff.1 (by omega)
  intro y hy
  rw [List.nil_append, List.mem_singleton] at hy
  exact ⟨z1 - 200, z2 - 200, by omega, by omega, by omega, by omega, hy⟩
set_option maxRecDepth 100000 in
theorem whole21 {a : Option Addr} {len cap : Nat} {zs : List Int} {w : World} (hr : IsRow .u8 w a len cap zs) :
    Calls Tryz.prog 21 #[.slice a len cap, .int .i64 1, .int .i64 200] w fun e w' => ∃ (A : Addr) (cp : Nat) (i j : Int), -200 ≤ i ∧ i ≤ 200 ∧ -200 ≤ j ∧ j ≤ 200 ∧ e = .returned (.slice (some A) 1 cp) ∧ w'.cell? A = some (.complex .f32 (floatOfInt .f32 i) (floatOfInt .f32 j)) ∧ Below w.heap.size w w' := by
  have C := from38 hr
  go_enter Tryz.func21, Tryz.ntmps21
  go_upto_region 2 with (go_at_call 38; (with_reducible refine C.mono ?_); rintro e w1 ⟨rfl, S1⟩)
  go_wp2_with (((with_reducible refine gate_dst (N := 12) rfl ?_); refine Kd.R_lit Hc.Kc (w0 := w1) w1.heap.size 42 ?hg (N := 12) ?hd (xs := ([] : List Int)) (inner := []) (ok := fun k => k ≠ w.heap.size) (okp := fun k => k ≠ w.heap.size) ?hr ?hp (fun _ hk => hk) ?hf (Below.refl _ _) (Nat.le_refl _) (by simp) ?_; (case hd => rfl); (case hg => rfl); (case hr => first | (go_simp; done) | (go_simp; rfl)); (case hp => exact (Reps.none _ _)); (case hf => exact ne_new S1); intro v1 w2 ho hb1 hg1 hnew))
  have hbb := Lib.hid (show w.heap.size < w1.heap.size ∧ w1.heap.size ≤ w1.heap.size from ⟨S1.lt, Nat.le_refl _⟩)
  have hR := Lib.hid ho
  have hS1 := Lib.hid S1
  have SA := Lib.hid (S1.self.step (.inl hg1))
  clear ho hb1 hg1 hnew S1 C
  go_loopg [1, 8, 9] 1 (fun q u1 u8 u9 w' => ∃ ys : List Int, u1 = .int .i64 (q : Nat) ∧ Hid (ys.length + q = 1) ∧ Hid (∀ y ∈ ys, whC y) ∧ Hid (Hc.Kc.R 42 w' w1.heap.size (fun k => k ≠ w.heap.size) u8 ys) ∧ Hid (St w1 w' w.heap.size a len cap zs (4 * (1 - q))))
  case atStart => exact ⟨[], rfl, Lib.hid (by simp), Lib.hid (fun y hy => by cases hy), hR, SA⟩
  case round =>
    clear hR SA
    obtain ⟨ys, rfl, hlen, hok, hRL, SL⟩ := hrel
    cases gk with
    | zero =>
      have hl := hlen.out
      have hbel := Lib.hid (St.end_ hS1.out SL.out)
      obtain ⟨y, hy⟩ : ∃ y, ys = [y] := List.length_eq_one_iff.1 (by omega)
      have hok' := hok.out
      have hRL' := hRL.out
      subst hy
      obtain ⟨i, j, h1, h2, h3, h4, e5⟩ := hok' y (List.mem_singleton_self y)
      obtain ⟨A, cp, rfl⟩ := Kd.R_slice hRL'
      obtain ⟨ad, e6, hc⟩ := Hc.at_cpx (Kd.R_reads' hRL').2.2 0 (by omega) (by show (0:Int) < ((1 : Nat) : Int); omega)
      subst e6
      have e7 : rd [y] (0 : Int) = y := rfl
      rw [e7, e5, Hc.re_cx, Hc.im_cx] at hc
      clear hok' hRL' e5 e7 hl
      have H := Lib.hid hc
      clear hc
      go_wp2
      go_ret
      exact ⟨ad, cp, i, j, h1, h2, h3, h4, rfl, H.out, hbel.out⟩
    | succ q =>
      obtain rfl : q = 0 := by have := hlen.out; omega
      have hpos : (0 : Int) < ((0 + 1 : Nat) : Int) := by omega
      have hw := down 0 (by omega)
      go_wp2_with (first | (go_at_call 40; (with_reducible refine (pick40 401 (by omega) (by omega) SL.out (by omega)).mono ?_); rintro e w4 ⟨z1, hz0, hz1, rfl, s2⟩; have hR2 := Lib.hid (Kd.R_grown hRL.out s2.grown (fun k hk he => hk (Option.some.inj he))); have S2 := Lib.hid (SL.out.tr s2); clear s2) | (go_at_call 40; (with_reducible refine (pick40 401 (by omega) (by omega) S2.out (by omega)).mono ?_); rintro e w5 ⟨z2, hz2, hz3, rfl, s3⟩; have hR3 := Lib.hid (Kd.R_grown hR2.out s3.grown (fun k hk he => hk (Option.some.inj he))); have S3 := Lib.hid (S2.out.tr s3); have hfr2 := Lib.hid (fresh s3); have hsz2 := Lib.hid (size_le S2.out s3); clear s3) | ((with_reducible refine gate_builtin (b := .append) (xs := #[.tmp 25, .tmp 36]) rfl ?_); at_builtin; refine Kd.R_append Hc.Kc (w0 := w5) w1.heap.size rfl (.tmp 25) (.tmp 36) 45 42 (.complex .f32 0 0) 8 rfl Tryz.underlying45 info42 rfl (by decide) (by omega) u8 ys (Hc.cx (floatOfInt .f32 (z1 - 200) : Nat) (floatOfInt .f32 (z2 - 200) : Nat)) [.complex .f32 (floatOfInt .f32 (z1 - 200)) (floatOfInt .f32 (z2 - 200))] (fun k => k ≠ w.heap.size) (fun _ => False) rfl rfl ?aP (fun _ hk => hk.elim) ?aF ?aO ?aR ?aB ?aL ?_; (case aP => exact Hc.cvl (floatOfInt .f32 (z1 - 200) : Nat) (floatOfInt .f32 (z2 - 200) : Nat)); (case aR => exact Below.refl _ _); (case aF => exact hfr2.out); (case aO => exact hR3.out); (case aB => exact hsz2.out); (case aL => exact small8 ys hlen.out (by omega)); intro v6 w6 ho5 hb5 hg5 hat5; have S4 := Lib.hid (St.appc S3.out hR3.out hbb.out hg5); have hR4 := Lib.hid ho5; clear ho5 hb5 hg5 hat5))
      go_roundg 0
      case measure => omega
      case rel => exact ⟨ys ++ [_], by first | rfl | exact congrArg (Value.int .i64) (wrapq 0 (by omega)), Lib.hid (by have := hlen.out; rw [List.length_append, List.length_singleton]; omega), Lib.hid (wh_one ys z1 z2 ⟨hz0, hz1⟩ ⟨hz2, hz3⟩ hlen.out), hR4, Lib.hid (S4.out.mono (by omega))⟩
end Go.Proofs.YtpfjcfhgckpjmaaGreatDoor.Sr
