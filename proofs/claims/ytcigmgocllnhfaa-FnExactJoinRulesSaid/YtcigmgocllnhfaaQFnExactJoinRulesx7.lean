/- Walks for the law FnExactJoinRules, written by a program of this claim; what they rest on stands in the texts beside. -/
import Derived.Test.YtcigmgocllnhfaaQFnExactJoinRulesx0
import Derived.Test.YtcigmgocllnhfaaQFnExactJoinRulesx2
import Derived.Test.YtcigmgocllnhfaaQFnExactJoinRulesx4
import Derived.Test.YtcigmgocllnhfaaQFnExactJoinRulesx6
namespace Go.Proofs.Ytcigmgocllnhfaa.QFnExactJoinRules
open Go.RowKit Go.Proofs.YtcigmgocllnhfaaW.PrintWords Go.Proofs.YtcigmgocllnhfaaW.PrintLast Go.Proofs.YtcigmgocllnhfaaW.PrintMore
attribute [local go_sem] max2_int min2_int max_two min_two max_three min_three max_four min_four   -- for this text's walks alone
set_option linter.unusedVariables false
set_option linter.unusedSimpArgs false

/-! ### laws_FnExactJoinRules: function 17 -/
mutual
def laws_FnExactJoinRules.j0 : Nat → Bool → Bool → Bool → Int → Int → List Int → Int → Int → List Int → Int → Int → List Int → Int → Int → List Int → Int → Int → List Int → Int → Int → List Int → Option (Bool)
  | 0, _, _, _, _, _, _, _, _, _, _, _, _, _, _, _, _, _, _, _, _, _ => none
  | k + 1, x7, x11, x53, x225000, x225001, x225002, x226000, x226001, x226002, x245000, x245001, x245002, x251000, x251001, x251002, x257000, x257001, x257002, x264000, x264001, x264002 => if x53 = true then (some false) else ((laws_toRule.f k x225000 x225001 x225002).bind fun bt265 => ((laws_eqRule.f k x251000 x251001 x251002 bt265.1 bt265.2.1 bt265.2.2).bind fun t270 => (if t270 = true then ((laws_toRule.f k x226000 x226001 x226002).bind fun bt271 => ((laws_eqRule.f k x257000 x257001 x257002 bt271.1 bt271.2.1 bt271.2.2).bind fun t276 => (if t276 = true then ((laws_markRule.f k x251000 x251001 x251002 1).bind fun bt277 => ((laws_markRule.f k x257000 x257001 x257002 bt277.1).bind fun bt279 => (if bt279.1 < 0 then (laws_FnExactJoinRules.j1 k x7 true x225000 x225001 x225002 x226000 x226001 x226002 x245000 x245001 x245002 x264000 x264001 x264002) else ((laws_eqRule.f k x264000 x264001 x264002 x245000 x245001 x245002).bind fun t281 => (if t281 = true then (laws_FnExactJoinRules.j1 k x7 (x11 != x7) x225000 x225001 x225002 x226000 x226001 x226002 x245000 x245001 x245002 x264000 x264001 x264002) else (laws_FnExactJoinRules.j1 k x7 true x225000 x225001 x225002 x226000 x226001 x226002 x245000 x245001 x245002 x264000 x264001 x264002)))))) else (some false)))) else (some false))))
def laws_FnExactJoinRules.j1 : Nat → Bool → Bool → Int → Int → List Int → Int → Int → List Int → Int → Int → List Int → Int → Int → List Int → Option (Bool)
  | 0, _, _, _, _, _, _, _, _, _, _, _, _, _, _ => none
  | k + 1, x7, x82, x225000, x225001, x225002, x226000, x226001, x226002, x245000, x245001, x245002, x264000, x264001, x264002 => if x82 = true then (some false) else ((laws_markRule.f k x264000 x264001 x264002 1).bind fun bt282 => ((laws_heldRule.f k x264000 x264001 bt282.2 1).bind fun t284 => (if t284 < 0 then (some false) else (if t284 = bt282.1 then ((laws_toRule.f k x225000 x225001 x225002).bind fun bt285 => ((laws_toRule.f k x226000 x226001 x226002).bind fun bt290 => ((impl_JoinRules.f k bt285.1 bt285.2.1 bt285.2.2 bt290.1 bt290.2.1 bt290.2.2).bind fun bt295 => ((laws_eqRule.f k bt295.1 bt295.2.1 bt295.2.2.1 x245000 x245001 x245002).bind fun t302 => (if t302 = true then (laws_FnExactJoinRules.j2 k bt282.1 (bt295.2.2.2 != x7) x264000 x264001 bt282.2) else (laws_FnExactJoinRules.j2 k bt282.1 true x264000 x264001 bt282.2)))))) else (some false)))))
def laws_FnExactJoinRules.j2 : Nat → Int → Bool → Int → Int → List Int → Option (Bool)
  | 0, _, _, _, _, _ => none
  | k + 1, x13, x110, x264000, x264001, x264002 => if x110 = true then (some false) else ((laws_heldRule.f k x264000 x264001 x264002 1).bind fun t303 => (if t303 < 0 then (some false) else (if t303 = x13 then (some true) else (some false))))
end
def laws_FnExactJoinRules.f (k : Nat) (a0_0 : Int) (a0_1 : Int) (l0_2 : List Int) (a1_0 : Int) (a1_1 : Int) (l1_2 : List Int) : Option (Bool) := (laws_szRule.f a0_0 a0_1 l0_2 1048576).bind fun t226 => (if t226 < 0 then (some true) else ((laws_szRule.f a1_0 a1_1 l1_2 t226).bind fun t227 => (if t227 < 0 then (some true) else ((laws_toRule.f k a0_0 a0_1 l0_2).bind fun bt228 => ((laws_toRule.f k a1_0 a1_1 l1_2).bind fun bt233 => ((spec_JoinRules.f k bt228.1 bt228.2.1 bt228.2.2 bt233.1 bt233.2.1 bt233.2.2).bind fun bt238 => ((laws_toRule.f k a0_0 a0_1 l0_2).bind fun bt245 => ((laws_toRule.f k a1_0 a1_1 l1_2).bind fun bt251 => ((impl_JoinRules.f k bt245.1 bt245.2.1 bt245.2.2 bt251.1 bt251.2.1 bt251.2.2).bind fun bt257 => ((laws_eqRule.f k bt257.1 bt257.2.1 bt257.2.2.1 bt238.1 bt238.2.1 bt238.2.2.1).bind fun t264 => (if t264 = true then (laws_FnExactJoinRules.j0 k bt238.2.2.2 bt257.2.2.2 (bt257.2.2.2 != bt238.2.2.2) a0_0 a0_1 l0_2 a1_0 a1_1 l1_2 bt238.1 bt238.2.1 bt238.2.2.1 bt245.1 bt245.2.1 bt245.2.2 bt251.1 bt251.2.1 bt251.2.2 bt257.1 bt257.2.1 bt257.2.2.1) else (laws_FnExactJoinRules.j0 k bt238.2.2.2 bt257.2.2.2 true a0_0 a0_1 l0_2 a1_0 a1_1 l1_2 bt238.1 bt238.2.1 bt238.2.2.1 bt245.1 bt245.2.1 bt245.2.2 bt251.1 bt251.2.1 bt251.2.2 bt257.1 bt257.2.1 bt257.2.2.1))))))))))))
theorem laws_FnExactJoinRules.mono_l : ∀ k, (∀ y0 y1 y2 y3 y4 y5 y6 y7 y8 y9 y10 y11 y12 y13 y14 y15 y16 y17 y18 y19 y20, LeO (laws_FnExactJoinRules.j0 k y0 y1 y2 y3 y4 y5 y6 y7 y8 y9 y10 y11 y12 y13 y14 y15 y16 y17 y18 y19 y20) (laws_FnExactJoinRules.j0 (k + 1) y0 y1 y2 y3 y4 y5 y6 y7 y8 y9 y10 y11 y12 y13 y14 y15 y16 y17 y18 y19 y20)) ∧ (∀ y0 y1 y2 y3 y4 y5 y6 y7 y8 y9 y10 y11 y12 y13, LeO (laws_FnExactJoinRules.j1 k y0 y1 y2 y3 y4 y5 y6 y7 y8 y9 y10 y11 y12 y13) (laws_FnExactJoinRules.j1 (k + 1) y0 y1 y2 y3 y4 y5 y6 y7 y8 y9 y10 y11 y12 y13)) ∧ (∀ y0 y1 y2 y3 y4, LeO (laws_FnExactJoinRules.j2 k y0 y1 y2 y3 y4) (laws_FnExactJoinRules.j2 (k + 1) y0 y1 y2 y3 y4))
  | 0 => ⟨fun _ _ _ _ _ _ _ _ _ _ _ _ _ _ _ _ _ _ _ _ _ r h => by simp [laws_FnExactJoinRules.j0] at h, fun _ _ _ _ _ _ _ _ _ _ _ _ _ _ r h => by simp [laws_FnExactJoinRules.j1] at h, fun _ _ _ _ _ r h => by simp [laws_FnExactJoinRules.j2] at h⟩
  | k + 1 => by
    obtain ⟨ih0, ih1, ih2⟩ := laws_FnExactJoinRules.mono_l k
    refine ⟨?_, ?_, ?_⟩
    · intro y0 y1 y2 y3 y4 y5 y6 y7 y8 y9 y10 y11 y12 y13 y14 y15 y16 y17 y18 y19 y20
      unfold laws_FnExactJoinRules.j0
      repeat' first
      | (with_reducible exact ih0 _ _ _ _ _ _ _ _ _ _ _ _ _ _ _ _ _ _ _ _ _)
      | (with_reducible exact ih1 _ _ _ _ _ _ _ _ _ _ _ _ _ _)
      | (with_reducible exact ih2 _ _ _ _ _)
      | (with_reducible exact impl_JoinRules.mono _ _ _ _ _ _ _)
      | (with_reducible exact laws_eqRule.mono _ _ _ _ _ _ _)
      | (with_reducible exact laws_heldRule.mono _ _ _ _ _)
      | (with_reducible exact laws_markRule.mono _ _ _ _ _)
      | (with_reducible exact laws_toRule.mono _ _ _ _)
      | (with_reducible exact spec_JoinRules.mono _ _ _ _ _ _ _)
      | (with_reducible exact LeO.refl _)
      | (with_reducible exact LeO.none _)
      | (with_reducible refine LeO.ite ?_ ?_)
      | (with_reducible refine LeO.bind ?_ (fun _ => ?_))
      | exact ih0 _ _ _ _ _ _ _ _ _ _ _ _ _ _ _ _ _ _ _ _ _
      | exact ih1 _ _ _ _ _ _ _ _ _ _ _ _ _ _
      | exact ih2 _ _ _ _ _
      | exact impl_JoinRules.mono _ _ _ _ _ _ _
      | exact laws_eqRule.mono _ _ _ _ _ _ _
      | exact laws_heldRule.mono _ _ _ _ _
      | exact laws_markRule.mono _ _ _ _ _
      | exact laws_toRule.mono _ _ _ _
      | exact spec_JoinRules.mono _ _ _ _ _ _ _
      | exact LeO.none _
      | refine LeO.ite ?_ ?_
      | refine LeO.bind ?_ (fun _ => ?_)
    · intro y0 y1 y2 y3 y4 y5 y6 y7 y8 y9 y10 y11 y12 y13
      unfold laws_FnExactJoinRules.j1
      repeat' first
      | (with_reducible exact ih0 _ _ _ _ _ _ _ _ _ _ _ _ _ _ _ _ _ _ _ _ _)
      | (with_reducible exact ih1 _ _ _ _ _ _ _ _ _ _ _ _ _ _)
      | (with_reducible exact ih2 _ _ _ _ _)
      | (with_reducible exact impl_JoinRules.mono _ _ _ _ _ _ _)
      | (with_reducible exact laws_eqRule.mono _ _ _ _ _ _ _)
      | (with_reducible exact laws_heldRule.mono _ _ _ _ _)
      | (with_reducible exact laws_markRule.mono _ _ _ _ _)
      | (with_reducible exact laws_toRule.mono _ _ _ _)
      | (with_reducible exact spec_JoinRules.mono _ _ _ _ _ _ _)
      | (with_reducible exact LeO.refl _)
      | (with_reducible exact LeO.none _)
      | (with_reducible refine LeO.ite ?_ ?_)
      | (with_reducible refine LeO.bind ?_ (fun _ => ?_))
      | exact ih0 _ _ _ _ _ _ _ _ _ _ _ _ _ _ _ _ _ _ _ _ _
      | exact ih1 _ _ _ _ _ _ _ _ _ _ _ _ _ _
      | exact ih2 _ _ _ _ _
      | exact impl_JoinRules.mono _ _ _ _ _ _ _
      | exact laws_eqRule.mono _ _ _ _ _ _ _
      | exact laws_heldRule.mono _ _ _ _ _
      | exact laws_markRule.mono _ _ _ _ _
      | exact laws_toRule.mono _ _ _ _
      | exact spec_JoinRules.mono _ _ _ _ _ _ _
      | exact LeO.none _
      | refine LeO.ite ?_ ?_
      | refine LeO.bind ?_ (fun _ => ?_)
    · intro y0 y1 y2 y3 y4
      unfold laws_FnExactJoinRules.j2
      repeat' first
      | (with_reducible exact ih0 _ _ _ _ _ _ _ _ _ _ _ _ _ _ _ _ _ _ _ _ _)
      | (with_reducible exact ih1 _ _ _ _ _ _ _ _ _ _ _ _ _ _)
      | (with_reducible exact ih2 _ _ _ _ _)
      | (with_reducible exact impl_JoinRules.mono _ _ _ _ _ _ _)
      | (with_reducible exact laws_eqRule.mono _ _ _ _ _ _ _)
      | (with_reducible exact laws_heldRule.mono _ _ _ _ _)
      | (with_reducible exact laws_markRule.mono _ _ _ _ _)
      | (with_reducible exact laws_toRule.mono _ _ _ _)
      | (with_reducible exact spec_JoinRules.mono _ _ _ _ _ _ _)
      | (with_reducible exact LeO.refl _)
      | (with_reducible exact LeO.none _)
      | (with_reducible refine LeO.ite ?_ ?_)
      | (with_reducible refine LeO.bind ?_ (fun _ => ?_))
      | exact ih0 _ _ _ _ _ _ _ _ _ _ _ _ _ _ _ _ _ _ _ _ _
      | exact ih1 _ _ _ _ _ _ _ _ _ _ _ _ _ _
      | exact ih2 _ _ _ _ _
      | exact impl_JoinRules.mono _ _ _ _ _ _ _
      | exact laws_eqRule.mono _ _ _ _ _ _ _
      | exact laws_heldRule.mono _ _ _ _ _
      | exact laws_markRule.mono _ _ _ _ _
      | exact laws_toRule.mono _ _ _ _
      | exact spec_JoinRules.mono _ _ _ _ _ _ _
      | exact LeO.none _
      | refine LeO.ite ?_ ?_
      | refine LeO.bind ?_ (fun _ => ?_)
theorem laws_FnExactJoinRules.mono : ∀ a0 a1 a2 a3 a4 a5 k, LeO (laws_FnExactJoinRules.f k a0 a1 a2 a3 a4 a5) (laws_FnExactJoinRules.f (k + 1) a0 a1 a2 a3 a4 a5) := by
  intro a0 a1 a2 a3 a4 a5 k
  obtain ⟨ih0, ih1, ih2⟩ := laws_FnExactJoinRules.mono_l k
  unfold laws_FnExactJoinRules.f
  repeat' first
      | (with_reducible exact ih0 _ _ _ _ _ _ _ _ _ _ _ _ _ _ _ _ _ _ _ _ _)
      | (with_reducible exact ih1 _ _ _ _ _ _ _ _ _ _ _ _ _ _)
      | (with_reducible exact ih2 _ _ _ _ _)
      | (with_reducible exact impl_JoinRules.mono _ _ _ _ _ _ _)
      | (with_reducible exact laws_eqRule.mono _ _ _ _ _ _ _)
      | (with_reducible exact laws_heldRule.mono _ _ _ _ _)
      | (with_reducible exact laws_markRule.mono _ _ _ _ _)
      | (with_reducible exact laws_toRule.mono _ _ _ _)
      | (with_reducible exact spec_JoinRules.mono _ _ _ _ _ _ _)
      | (with_reducible exact LeO.refl _)
      | (with_reducible exact LeO.none _)
      | (with_reducible refine LeO.ite ?_ ?_)
      | (with_reducible refine LeO.bind ?_ (fun _ => ?_))
      | exact ih0 _ _ _ _ _ _ _ _ _ _ _ _ _ _ _ _ _ _ _ _ _
      | exact ih1 _ _ _ _ _ _ _ _ _ _ _ _ _ _
      | exact ih2 _ _ _ _ _
      | exact impl_JoinRules.mono _ _ _ _ _ _ _
      | exact laws_eqRule.mono _ _ _ _ _ _ _
      | exact laws_heldRule.mono _ _ _ _ _
      | exact laws_markRule.mono _ _ _ _ _
      | exact laws_toRule.mono _ _ _ _
      | exact spec_JoinRules.mono _ _ _ _ _ _ _
      | exact LeO.none _
      | refine LeO.ite ?_ ?_
      | refine LeO.bind ?_ (fun _ => ?_)
def laws_FnExactJoinRules.T8 : Bool × List (List Nat × List Nat) := (true, [([], []), ([0], [0]), ([], []), ([2, 1], [2]), ([1, 3, 3], [1, 3]), ([4], [4]), ([5], [5]), ([5], [5]), ([], []), ([8, 6, 4, 0, 1, 2, 3, 4, 5, 6, 8], [6, 8]), ([7, 9, 0, 1, 2, 3, 4, 5, 6, 7, 8, 9], [7])])
def laws_FnExactJoinRules.B8 : List Nat := [0, 1, 0, 7, 15, 31, 63, 63, 0, 383, 1023]
theorem laws_FnExactJoinRules.tab8 : rtab .any (opsOf Try.f17 8) = laws_FnExactJoinRules.T8 := by kernel_rfl
theorem laws_FnExactJoinRules.bits8 : waitsOk laws_FnExactJoinRules.T8.2 laws_FnExactJoinRules.B8 = true := by kernel_rfl
def laws_FnExactJoinRules.T31 : Bool × List (List Nat × List Nat) := (true, [([], []), ([0], [0]), ([], []), ([2, 1], [2]), ([1, 3, 3], [1, 3]), ([4], [4]), ([5], [5]), ([5], [5]), ([], []), ([8, 6, 4, 0, 1, 2, 3, 4, 5, 6, 8], [6, 8]), ([7, 9, 0, 1, 2, 3, 4, 5, 6, 7, 8, 9], [7])])
def laws_FnExactJoinRules.B31 : List Nat := [0, 1, 0, 7, 15, 31, 63, 63, 0, 383, 1023]
theorem laws_FnExactJoinRules.tab31 : rtab .any (opsOf Try.f17 31) = laws_FnExactJoinRules.T31 := by kernel_rfl
theorem laws_FnExactJoinRules.bits31 : waitsOk laws_FnExactJoinRules.T31.2 laws_FnExactJoinRules.B31 = true := by kernel_rfl
theorem tB {w w1 w2 : World} {g : Nat} {o : Obj} (x : Aside0 (w.heap[g]? = some o)) (hb : Below w1.heap.size w1 w2) (h : w.heap[g]? = some o → w1.heap[g]? = some o := by (intro h_; (with_reducible repeat (first | refine blk_drewN ?_ _ | refine blk_drew ?_ | refine blk_alloc ?_ _)); exact h_)) : Aside0 (w2.heap[g]? = some o) := ⟨blk_below (h x.out) hb⟩
theorem uB {w w1 : World} {g : Nat} {o : Obj} (x : Aside0 (w.heap[g]? = some o)) (h : w.heap[g]? = some o → w1.heap[g]? = some o := by (intro h_; (with_reducible repeat (first | refine blk_drewN ?_ _ | refine blk_drew ?_ | refine blk_alloc ?_ _)); exact h_)) : w1.heap[g]? = some o := h x.out
theorem tR {w w1 w2 : World} {e b : Nat} {ok : Nat → Prop} {v : Value} {l : List Int} (x : Aside0 (Kd.R (Kd.int .i64) e w b ok v l)) (hb : Below w1.heap.size w1 w2) (h : Kd.R (Kd.int .i64) e w b ok v l → Kd.R (Kd.int .i64) e w1 b ok v l := by (intro h_; (with_reducible repeat (first | apply Kd.R_alloc | apply Kd.R_drewN | apply Kd.R_drew)); exact h_)) : Aside0 (Kd.R (Kd.int .i64) e w2 b ok v l) := ⟨Kd.R_below (h x.out) hb⟩
theorem uR {w w1 : World} {e b : Nat} {ok : Nat → Prop} {v : Value} {l : List Int} (x : Aside0 (Kd.R (Kd.int .i64) e w b ok v l)) (h : Kd.R (Kd.int .i64) e w b ok v l → Kd.R (Kd.int .i64) e w1 b ok v l := by (intro h_; (with_reducible repeat (first | apply Kd.R_alloc | apply Kd.R_drewN | apply Kd.R_drew)); exact h_)) : Kd.R (Kd.int .i64) e w1 b ok v l := h x.out
theorem uH {w0 w w1 : World} {b : Nat} (x : Aside0 (Below b w0 w)) (h : Below b w0 w → Below b w0 w1 := by (intro h_; repeat (first | (with_reducible first | exact h_ | apply below_alloc | apply pw_below_drewN | apply below_drew1 | refine below_set ?_ (Aside0.out (by assumption))) | exact h_))) : Below b w0 w1 := h x.out
theorem tH {w0 w w1 w2 : World} (x : Aside0 (Below w0.heap.size w0 w)) (hb : Below w1.heap.size w1 w2) (h : Below w0.heap.size w0 w → Below w0.heap.size w0 w1 := by (intro h_; repeat (first | (with_reducible first | exact h_ | apply below_alloc | apply pw_below_drewN | apply below_drew1 | refine below_set ?_ (Aside0.out (by assumption))) | exact h_))) : Aside0 (Below w0.heap.size w0 w2) := ⟨below_step (h x.out) hb⟩
theorem uC {w w1 : World} {A : Option Addr} {n : Nat} {l : List Int} (x : Kd.C (Kd.int .i64) w A n l) (h : Kd.C (Kd.int .i64) w A n l → Kd.C (Kd.int .i64) w1 A n l := by (intro h_; repeat (first | exact h_ | (with_reducible refine Kd.C_alloc ?_ _) | (with_reducible refine Kd.C_drewN ?_ _) | (with_reducible refine Kd.C_drew ?_)))) : Kd.C (Kd.int .i64) w1 A n l := h x
theorem bc {w : World} {g : Nat} {cs : Array Value} {t : TypeId} {v : Value} (x : Aside0 (w.heap[g]? = some (.cells cs t (0, 0)))) (i : Nat) (h : cs[i]? = some v := by rfl) : w.cell? ⟨g, i, none⟩ = some v := (blk_cell x.out i).trans h
theorem am {p : Prop} (h : p) : Aside0 p := ⟨h⟩
theorem s1 {α : Type} (l : List α) (i : Nat) (a : α) : l.toArray.setIfInBounds i a = (l.set i a).toArray := List.setIfInBounds_toArray ..
theorem s2 {α : Type} (a b : α) (l : List α) : (a :: l).set 0 b = b :: l := rfl
theorem s3 {α : Type} (a b : α) (l : List α) (n : Nat) : (a :: l).set (n + 1) b = a :: l.set n b := rfl
theorem F3 {w : World} {e b : Nat} {ok : Nat → Prop} {v : Value} {l : List Int} {g : Nat} {cs : Array Value} {t : TypeId} (x : Aside0 (Kd.R (Kd.int .i64) e w b ok v l)) (y : Aside0 (w.heap[g]? = some (.cells cs t (0, 0)))) (v0 v1 v2 : Value) (h : ∀ q, q ∈ e :: (Kd.int .i64).E → q ≠ t := by decide) : Kd.R (Kd.int .i64) e (((w.setCell ⟨g, 0, none⟩ v0).setCell ⟨g, 1, none⟩ v1).setCell ⟨g, 2, none⟩ v2) b (fun k => ok k ∧ k ≠ g) v l :=
  Kd.R_far (p := ⟨g, 2, none⟩) (Kd.R_far (p := ⟨g, 1, none⟩) (Kd.R_far (p := ⟨g, 0, none⟩) (Kd.R_types x.out y.out h) (fun _ hk => hk.2) v0) (fun _ hk => hk.2) v1) (fun _ hk => hk.2) v2

end Go.Proofs.Ytcigmgocllnhfaa.QFnExactJoinRules
