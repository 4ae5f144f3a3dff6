/- What the library's functions answer, as the walks of this seat take it: the table of powers, read where the call begins, stays. -/
import Derived.Test.YtdklgllbemiicaaDoorShelf
import Derived.Lib.AppendIntMem
import Derived.Test.YtdklgllbemiicaaDoorWMore
namespace Go.Proofs.YtdklgllbemiicaaDoor.Tb
open Go.RowKit Go.Proofs.YtdklgllbemiicaaDoorW.PrintWords
/-- The table of powers of ten lies as the program lays it. -/
def TB (w : World) : Prop := Lib.TabIs Tryd.prog w "internal/strconv.uint64pow10" .u64 Lib.pow10Tab
theorem TB.below {w w' : World} (h : TB w) (hb : Below w.heap.size w w') : TB w' := Lib.tabBelow_of_tabIs h w' hb
theorem formatInt (n : Int) (h0 : -9223372036854775808 ≤ n) (h1 : n ≤ 9223372036854775807) (w : World) (ht : TB w) :
    Calls Tryd.prog 20 #[.int .i64 n, .int .i64 10] w fun e w' => e = .returned (.string ⟨(Lib.itoa n).toArray⟩) ∧ Below w.heap.size w w' :=
  (Tryd.strconv_FormatInt_10 n h0 h1 w ht).mono fun e w' ⟨he, k, os, hw⟩ => ⟨he, by rw [hw]; exact Lib.below_grow _ w (Nat.le_refl _) k os⟩
/-- A text that a list's address tells is at a plain address. -/
theorem plain_of_cell {w : World} {ad : Addr} {v : Value} (h : w.cell? ad = some v) : ∃ b o, ad = ⟨b, o, none⟩ ∧ b < w.heap.size := by
  obtain ⟨b, o, spot⟩ := ad
  have hs : spot = none := World.cell?_spot h
  subst hs
  exact ⟨b, o, rfl, World.block_lt_of_cell? w _ h⟩
theorem strJoin (A : Option Addr) (c : Nat) (xs : List ByteArray) (sep : ByteArray) (w : World) (hr : Kd.C Kd.string w A xs.length xs) (hc : xs.length ≤ c) (hN : xs.length ≤ 140737488355328) (hlen : (Lib.join (xs.map (·.data.toList)) sep.data.toList).length ≤ 140737488355328) :
    Calls Tryd.prog 42 #[.slice A xs.length c, .string sep] w fun e w' => e = .returned (.string ⟨(Lib.join (xs.map (·.data.toList)) sep.data.toList).toArray⟩) ∧ Below w.heap.size w w' := by
  have R := Kd.reads_of_C (enc := Value.string) (d := ByteArray.empty) (h1 := fun _ => rfl) hr
  by_cases h0 : xs.length = 0
  · have hx := List.eq_nil_of_length_eq_zero h0
    subst hx
    exact (Tryd.strings_Join_none A c sep w).mono fun e w' ⟨he, hw⟩ => ⟨he, by rw [hw]; exact Below.refl _ _⟩
  · obtain ⟨ad, rfl, hcell⟩ := R.2.2 (by omega)
    have had : ∃ b o, ad = ⟨b, o, none⟩ ∧ b < w.heap.size := by
      have h := hcell 0 (by omega)
      have e : ad.add 0 = ad := by simp [Addr.add]
      rw [e] at h
      exact plain_of_cell h
    obtain ⟨bk, ok, rfl, hbk⟩ := had
    refine Tryd.strings_Join bk ok c xs sep w (fun j x hj => ?_) hbk hN hc hlen
    have hl : j < xs.length := (List.getElem?_eq_some_iff.1 hj).1
    have h := hcell j hl
    rw [List.getD_eq_getElem?_getD, hj, Go.WideShapes.add_plain] at h
    exact h
end Go.Proofs.YtdklgllbemiicaaDoor.Tb
