/- A list of singles among the arguments, each of 32 bits. -/
import Derived.Test.YtpfjcfhgckpjmaaDoorFt
namespace Go.Proofs.YtpfjcfhgckpjmaaDoor.Rf
open Go.Fl Go.RowKit Ieee Go.Proofs.YtpfjcfhgckpjmaaDoorW.PrintWords Go.Proofs.YtpfjcfhgckpjmaaDoor.Ft
open Go.ChangeShapes Go.WideShapes Go.Deep
variable {H : Type} {enc : TypeId × Value → H} {P : Program} {w : World} {base : Nat} {spare : Nat → Bool} {held : Bool}
theorem float_wf {e : TypeId} {n : Nat} {v : Value} {d : DataW H × List MemPlace} (he : P.underlying e = some (.float .f32)) (h : DataW.trod enc P w base spare held n e [v] = some d) : (Lit.float .f32 (bitsOf v).toNat).wf = true := by
  cases n with
  | zero => simp [DataW.trod] at h
  | succ n =>
    simp only [DataW.trod, he] at h
    cases v <;> simp_all [bitsOf]
theorem bits_nonneg (v : Value) : 0 ≤ bitsOf v := by
  cases v with
  | float k b => exact Int.natCast_nonneg b
  | _ => exact Int.le_refl 0
/-- A list of numbers among the arguments. -/
theorem rowFw {r : Reach} {b0 : Nat} {t e : TypeId} {v : Value} {d : DataW H} {ps : List MemPlace} (ht : P.underlying t = some (.slice e)) (he : P.underlying e = some (.float .f32)) (hc : P.cellsOf e = 1) (hval : Value.okWide P w r b0 t v) (hd : DataW.Trod enc P w base spare held t v d ps) :
    ∃ (A : Option Addr) (cap : Nat) (l : List Int), v = .slice A l.length cap ∧ Kf.C w A l.length l ∧ l.length ≤ cap ∧ ∀ x ∈ l, 0 ≤ x ∧ x < 4294967296 := by
  obtain ⟨a0, len0, cap0, rfl⟩ := okWide_slice ht hval
  obtain ⟨fuel, hf⟩ := hd
  rcases open_slice1 ht hc hf with ⟨hcs, _⟩ | ⟨a, len, cap, m, n, V, D, Pl, hcs, _, hl, hm, hmm, _, hV⟩
  · simp [Value.cells] at hcs
    obtain ⟨rfl, rfl, rfl⟩ := hcs
    exact ⟨none, 0, [], rfl, Kd.C_of_reads (d := (0 : Int)) ⟨rfl, by decide, fun h => absurd h (by decide)⟩, Nat.le_refl _, fun x hx => by cases hx⟩
  · simp [Value.cells] at hcs
    obtain ⟨rfl, rfl, rfl⟩ := hcs
    have hlen : ((List.range len0).map fun i => bitsOf (V i)).length = len0 := by simp
    have hle : len0 ≤ m := by rw [hmm]; split <;> omega
    refine ⟨some a, cap0, (List.range len0).map fun i => bitsOf (V i), by rw [hlen], Kd.C_of_reads (d := (0 : Int)) ⟨rfl, ?_, fun _ => ⟨a, rfl, fun j hj => ?_⟩⟩, by rw [hlen]; exact hl, fun x hx => ?_⟩
    · rw [hlen]; unfold maxLen at hm; omega
    · rw [hlen] at hj
      obtain ⟨h1, h2⟩ := hV j (by omega)
      have h3 := float_cell he h2
      rw [h1, h3]
      simp [fv, List.getD_eq_getElem?_getD, hj, bitsOf]
    · obtain ⟨i, hi, rfl⟩ := List.mem_map.1 hx
      have hi' := List.mem_range.1 hi
      obtain ⟨h1, h2⟩ := hV i (by omega)
      have h3 := lt32 (float_wf he h2)
      have h4 := bits_nonneg (V i)
      omega
end Go.Proofs.YtpfjcfhgckpjmaaDoor.Rf
