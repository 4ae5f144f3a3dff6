/- A map of whole numbers that a call makes, told by a list: -1 where there is none. -/
import Derived.Test.YtcigmgocllnhfaaChecked
import Derived.Test.YtcigmgocllnhfaaWMore
import Derived.Maps.OwnSet
import Derived.Maps.OwnOps
import Derived.WalkSmall
import Derived.Below
namespace Go.Proofs.Ytcigmgocllnhfaa.Mp
open Go.RowKit Go.Maps Go.ChangeMaps Go.Proofs.YtcigmgocllnhfaaW.PrintWords

/-- Block B is a map of at most n entries that answers as the list x. -/
def MapIs (w : World) (B : Nat) (x : List Int) (n : Nat) : Prop :=
  ∃ D : DataW Unit, w.ownsMap Try.prog 2 (plainElem Try.prog 2) B n D ∧ IsMap D ∧ x.length ≤ 1000000 ∧
    ∀ j : Nat, j < x.length → (Maps.has D (.int .i64 (j : Int)) = decide (0 ≤ rd x (j : Int))) ∧ (0 ≤ rd x (j : Int) → ∀ z, D.atKey (.int .i64 (j : Int)) z = .lit (.int .i64 (rd x (j : Int))))
theorem MapIs.heap {w w' : World} {B : Nat} {x : List Int} {n : Nat} (h : MapIs w B x n) (e : w'.heap[B]? = w.heap[B]?) : MapIs w' B x n := by
  obtain ⟨D, ⟨es, clock, hb, F, hs, hD⟩, h2, h3⟩ := h
  exact ⟨D, ⟨es, clock, e.trans hb, F, hs, hD⟩, h2, h3⟩
theorem MapIs.lt {w : World} {B : Nat} {x : List Int} {n : Nat} (h : MapIs w B x n) : B < w.heap.size := by
  obtain ⟨D, h1, -⟩ := h; exact h1.lt
theorem MapIs.drew {w : World} {B : Nat} {x : List Int} {n : Nat} (h : MapIs w B x n) : MapIs w.drew B x n := h.heap rfl
theorem MapIs.drewN {w : World} {B : Nat} {x : List Int} {n : Nat} (h : MapIs w B x n) (m : Nat) : MapIs (w.drewN m) B x n := h.heap rfl
theorem MapIs.below {w w' : World} {B : Nat} {x : List Int} {n : Nat} (h : MapIs w B x n) (hb : Below w.heap.size w w') : MapIs w' B x n := h.heap (hb.block B h.lt)
theorem MapIs.mono {w : World} {B : Nat} {x : List Int} {n m : Nat} (h : MapIs w B x n) (hn : n ≤ m) : MapIs w B x m := by
  obtain ⟨D, h1, h2, h3⟩ := h; exact ⟨D, h1.mono hn, h2, h3⟩
theorem MapIs.ne {w : World} {B : Nat} {x : List Int} {n : Nat} (h : MapIs w B x n) {g : Nat} {cs : Array Value} {t : TypeId} (hb : w.heap[g]? = some (.cells cs t (0, 0))) : some g ≠ some B := by
  obtain ⟨D, ⟨es, clock, hb', -⟩, -⟩ := h
  intro e
  obtain rfl := Option.some.inj e
  rw [hb] at hb'
  cases hb'
/-- What is asked of a table: not too long, its numbers small. -/
def okT (l : List Int) : Bool := decide (l.length ≤ 243) && l.all fun y => decide (0 ≤ y ∧ y ≤ 2)
theorem okT_len {l : List Int} (h : okT l = true) : l.length ≤ 243 := by
  unfold okT at h; exact of_decide_eq_true (Bool.and_eq_true_iff.mp h).1
theorem okT_rd {l : List Int} (h : okT l = true) (i : Int) (h0 : 0 ≤ i) (h1 : i < (l.length : Int)) : 0 ≤ rd l i ∧ rd l i ≤ 1000000 := by
  obtain ⟨j, rfl⟩ : ∃ j : Nat, i = j := ⟨i.toNat, by omega⟩
  have hj : j < l.length := by omega
  have e : rd l (j : Int) = l[j] := by unfold Go.Proofs.YtcigmgocllnhfaaW.PrintWords.rd; rw [List.getD_eq_getElem?_getD]; simp [hj]
  unfold okT at h
  have := of_decide_eq_true (List.all_eq_true.mp (Bool.and_eq_true_iff.mp h).2 _ (List.getElem_mem hj))
  rw [e]; omega
theorem none_at : ∀ j : Nat, j < 11 → rd [-1, -1, -1, -1, -1, -1, -1, -1, -1, -1, -1] (j : Int) = -1 := by decide
theorem made (w : World) : MapIs (w.alloc (.map #[] 0)) w.heap.size [-1, -1, -1, -1, -1, -1, -1, -1, -1, -1, -1] 0 :=
  ⟨.map [], World.ownsMap_made _ _ _ _, isMap_empty, by decide, fun j hj => by
    have e := none_at j hj
    rw [e]
    exact ⟨rfl, fun h => absurd h (by decide)⟩⟩
theorem law : Keyed Try.prog 2 := int_keyed (q := .i64) (by kernel_rfl)
theorem under72 : Try.prog.underlying 72 = some (.map 2 2) := by kernel_rfl
theorem under2 : Try.prog.underlying 2 = some (.int .i64) := by kernel_rfl
theorem zero2 (w : World) : (zeroValue 2).run Try.prog w = .ok (.int .i64 0) w := by kernel_rfl
theorem wf_of {j : Int} (h0 : 0 ≤ j) (h1 : j ≤ 1000000) : (Lit.int .i64 j).wf = true := WalkArith.wf_i64 (by omega)
section
variable {ops : Array Oper} {rest : List Oper} {o : Oper} {a : Act} {Q : Exit → Act → World → Prop}
theorem make_event {W : World} {N : Tmp} (hg : o.guard = none) (_hd : o.dst = some N) (hrun : (execOp a.eval o).run Try.prog W = .ok (.value (.map (some W.heap.size))) (W.alloc (.map #[] 0)))
    (h : ∀ B, B = W.heap.size → ∀ w1, MapIs w1 B [-1, -1, -1, -1, -1, -1, -1, -1, -1, -1, -1] 0 → Below W.heap.size W w1 → wpList Try.prog ops Q rest (a.put o.dst (.map (some B))) w1) : wpList Try.prog ops Q (o :: rest) a W :=
  Kd.event_run hg hrun (h _ rfl _ (made W) (below_alloc (Below.refl _ _) _))
theorem look_has {w : World} {B : Nat} {x : List Int} {n : Nat} (hown : MapIs w B x n) (hg : o.guard = none) (m y : Operand) (hop : o.op = .lookup 72 m y true) (hm : a.eval m = .map (some B)) (j : Int) (hx : a.eval y = .int .i64 j) (h0 : 0 ≤ j) (h1 : j < (x.length : Int)) (hv : 0 ≤ rd x j)
    (hK : wpList Try.prog ops Q rest (a.put o.dst (.tuple #[.int .i64 (rd x j), .bool true])) w) : wpList Try.prog ops Q (o :: rest) a w := by
  obtain ⟨i, rfl⟩ : ∃ i : Nat, j = i := ⟨j.toNat, by omega⟩
  obtain ⟨D, d1, d2, d4, d3⟩ := hown
  obtain ⟨k1, k2⟩ := d3 i (by omega)
  refine wpList_lookup_own_ok_int w hg m y 72 hop 2 2 .i64 law under72 under2 (zero2 w) B n D hm d1 _ (.int .i64 (i : Int)) hx (keyOf_int_mk under2 (wf_of h0 (by omega))) (fun c hc _ => ?_)
  rw [k2 hv] at hc
  rw [k1, decide_eq_true hv]
  injection hc with hc
  injection hc with _ hc
  rw [← hc]
  exact hK
theorem look_not {w : World} {B : Nat} {x : List Int} {n : Nat} (hown : MapIs w B x n) (hg : o.guard = none) (m y : Operand) (hop : o.op = .lookup 72 m y true) (hm : a.eval m = .map (some B)) (j : Int) (hx : a.eval y = .int .i64 j) (h0 : 0 ≤ j) (h1 : j < (x.length : Int)) (hv : ¬ 0 ≤ rd x j)
    (hK : ∀ c : Int, wpList Try.prog ops Q rest (a.put o.dst (.tuple #[.int .i64 c, .bool false])) w) : wpList Try.prog ops Q (o :: rest) a w := by
  obtain ⟨i, rfl⟩ : ∃ i : Nat, j = i := ⟨j.toNat, by omega⟩
  obtain ⟨D, d1, d2, d4, d3⟩ := hown
  obtain ⟨k1, -⟩ := d3 i (by omega)
  refine wpList_lookup_own_ok_int w hg m y 72 hop 2 2 .i64 law under72 under2 (zero2 w) B n D hm d1 _ (.int .i64 (i : Int)) hx (keyOf_int_mk under2 (wf_of h0 (by omega))) (fun c _ _ => ?_)
  rw [k1, decide_eq_false hv]
  exact hK c
theorem rd_set_same (x : List Int) (i : Nat) (h : i < x.length) (v : Int) : rd (x.set i v) (i : Int) = v := by
  unfold Go.Proofs.YtcigmgocllnhfaaW.PrintWords.rd; rw [List.getD_eq_getElem?_getD]; simp [h]
theorem rd_set_other (x : List Int) (i j : Nat) (h : j ≠ i) (v : Int) : rd (x.set i v) (j : Int) = rd x (j : Int) := by
  unfold Go.Proofs.YtcigmgocllnhfaaW.PrintWords.rd; rw [List.getD_eq_getElem?_getD, List.getD_eq_getElem?_getD]; simp [Ne.symm h]
theorem store {w : World} {B : Nat} {x : List Int} {n : Nat} (hown : MapIs w B x n) (hn : n ≤ 1000000) (hg : o.guard = none) (m y z : Operand) (hop : o.op = .mapUpdate 72 m y z) (hm : a.eval m = .map (some B)) (j v : Int) (hx : a.eval y = .int .i64 j) (hz : a.eval z = .int .i64 v) (h0 : 0 ≤ j) (h1 : j < (x.length : Int)) (v0 : 0 ≤ v) (v1 : v ≤ 1000000)
    (hK : ∀ w', MapIs w' B (x.set j.toNat v) (n + 1) → w.grownBy w' (some B) → wpList Try.prog ops Q rest (a.put o.dst undef) w') : wpList Try.prog ops Q (o :: rest) a w := by
  obtain ⟨i, rfl⟩ : ∃ i : Nat, j = i := ⟨j.toNat, by omega⟩
  obtain ⟨D, d1, d2, d4, d3⟩ := hown
  refine wpList_mapUpdate_own w hg m y z 72 hop 2 2 law under72 _ B n D hm d1 (by unfold maxLen; omega) _ _ (.int .i64 (i : Int)) hx hz (keyOf_int_mk under2 (wf_of h0 (by omega))) _ [] (plainElem_int under2 (wf_of v0 v1)) (fun w' r1 r2 => hK w' ⟨_, r1, d2.put _ _, by rw [List.length_set]; exact d4, fun q hq => ?_⟩ r2)
  rw [show ((i : Nat) : Int).toNat = i from rfl] at hq ⊢
  rw [List.length_set] at hq
  by_cases e : q = i
  · subst e
    rw [rd_set_same x q hq v, decide_eq_true v0]
    exact ⟨has_put_same d2 (k := .int .i64 (q : Int)) (show WideAt.IsKeyLit (.int .i64 (q : Int)) from trivial) _, fun _ z => atKey_put_same d2 (k := .int .i64 (q : Int)) (show WideAt.IsKeyLit (.int .i64 (q : Int)) from trivial) _ z⟩
  · obtain ⟨k1, k2⟩ := d3 q hq
    have hne : (Lit.int .i64 (q : Int)) ≠ .int .i64 (i : Int) := by
      intro h; injection h with _ h; omega
    rw [rd_set_other x i q e v]
    exact ⟨(has_put_other hne _).trans k1, fun h z => (atKey_put_other hne _ z).trans (k2 h z)⟩
end
end Go.Proofs.Ytcigmgocllnhfaa.Mp
