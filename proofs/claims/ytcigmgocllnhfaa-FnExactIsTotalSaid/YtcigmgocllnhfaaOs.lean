/- A rule (a struct of two whole numbers and a list) handed over by value: what it reads as. No function of the program in sight. -/
import Derived.ChangeSlices
import Derived.Lib.SmallJoins
import Derived.Test.YtcigmgocllnhfaaWMore
namespace Go.Proofs.Ytcigmgocllnhfaa.Os
open Go.ChangeShapes Go.WideShapes Go.Joins Go.Deep Go.Proofs.YtcigmgocllnhfaaW.PrintWords
variable {H : Type} {enc : TypeId × Value → H} {P : Program} {w : World} {base : Nat}

theorem i64_of {n : Int} (h : (Lit.int .i64 n).wf = true) : -9223372036854775808 ≤ n ∧ n ≤ 9223372036854775807 := by
  obtain ⟨p1, p2⟩ := Bool.and_eq_true_iff.1 (show (decide (IntKind.i64.min ≤ n) && decide (n ≤ IntKind.i64.max)) = true from h)
  exact ⟨of_decide_eq_true p1, of_decide_eq_true p2⟩

theorem row_of {a : Addr} {zs : List Int} {len : Nat} (hl : len ≤ zs.length) (hm : len ≤ 9223372036854775807) (h : ∀ i, i < zs.length → w.cell? (a.add i) = some (.int .i64 (zs.getD i 0))) :
    Kd.C (Kd.int .i64) w (some a) len (zs.take len) := by
  refine ⟨by simp; omega, hm, fun _ => ⟨a, rfl, fun j p hp => ⟨[.int .i64 p], rfl, rfl, ?_⟩⟩⟩
  intro i u hu
  have hj : j < len := by
    have := (List.getElem?_eq_some_iff.1 hp).1
    simp at this; omega
  have hz : zs.getD j 0 = p := by
    rw [List.getElem?_take] at hp
    simp only [hj, if_true] at hp
    rw [List.getD_eq_getElem?_getD, hp]; rfl
  match i, hu with
  | 0, hu =>
    simp at hu
    subst hu
    have := h j (by omega)
    rw [hz] at this
    simpa [Kd.int, Kd.scalar] using this

theorem open_rule {t f0t f2t : TypeId} {f0 f1 f2 : Field} {v : Value} {d : DataW H} {p : List MemPlace} (hs : P.underlying t = some (.struct #[f0, f1, f2])) (hone : oneCellFields P #[f0, f1, f2] = true) (hC : P.cellsOf t = 3)
    (h1c : P.cellsOf f0t = 1) (hi : P.underlying f0t = some (.int .i64)) (hsl : P.underlying f2t = some (.slice f0t)) (hfs : f0.type = f0t ∧ f1.type = f0t ∧ f2.type = f2t) (hval : Value.okWide P w .any base t v)
    (h : DataW.Trod enc P w 0 (fun _ => true) true t v d p) :
    ∃ (s c : Int) (A : Option Addr) (l : List Int) (cap : Nat), v = .agg #[.int .i64 s, .int .i64 c, .slice A l.length cap] ∧ (-9223372036854775808 ≤ s ∧ s ≤ 9223372036854775807) ∧ (-9223372036854775808 ≤ c ∧ c ≤ 9223372036854775807) ∧
      l.length ≤ 9223372036854775807 ∧ l.length ≤ cap ∧ Kd.C (Kd.int .i64) w A l.length l := by
  obtain ⟨c0, c1, c2, y0, y1, y2, m, rfl, rfl, rfl, hy0, hy1, hy2⟩ := open_agg3 hs hone hC hval h
  obtain ⟨e0, e1, e2⟩ := hfs
  rw [e0] at hy0
  rw [e1] at hy1
  rw [e2] at hy2
  obtain ⟨s, es, -, ws⟩ := DataW.trod_int hi hy0
  obtain ⟨c, ec, -, wc⟩ := DataW.trod_int hi hy1
  obtain rfl : c0 = .int .i64 s := by simpa using es
  obtain rfl : c1 = .int .i64 c := by simpa using ec
  rcases open_ints hsl hi h1c hy2 with ⟨hcs, _⟩ | ⟨x, len, cap, zs, hcs, _, hl, hm, hz, _, hcell, hwz⟩
  · obtain rfl : c2 = .slice none 0 0 := by simpa using hcs
    exact ⟨s, c, none, [], 0, rfl, i64_of ws, i64_of wc, by simp, by simp, Kd.C_nil _ _⟩
  · obtain rfl : c2 = .slice (some x) len cap := by simpa using hcs
    have hz' : zs.length = cap := by simpa using hz
    have hlen : (zs.take len).length = len := by simp; omega
    unfold maxLen at hm
    have hc := row_of (w := w) (a := x) (zs := zs) (len := len) (by omega) (by omega) hcell
    refine ⟨s, c, some x, zs.take len, cap, by rw [hlen], i64_of ws, i64_of wc, by rw [hlen]; omega, by rw [hlen]; exact hl, by rw [hlen]; exact hc⟩
end Go.Proofs.Ytcigmgocllnhfaa.Os
