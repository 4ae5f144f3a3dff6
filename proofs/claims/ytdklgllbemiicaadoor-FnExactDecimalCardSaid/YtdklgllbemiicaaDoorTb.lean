/- What the library's functions answer, as the walks of this seat take it: the table of powers, read where the call begins, stays. -/
import Derived.Test.YtdklgllbemiicaaDoorShelf
import Derived.Lib.AppendIntMem
import Derived.Test.YtdklgllbemiicaaDoorWMore
namespace Go.Proofs.YtdklgllbemiicaaDoor.Tb
open Go.RowKit
/-- The table of powers of ten lies as the program lays it. -/
def TB (w : World) : Prop := Lib.TabIs Tryd.prog w "internal/strconv.uint64pow10" .u64 Lib.pow10Tab
theorem TB.below {w w' : World} (h : TB w) (hb : Below w.heap.size w w') : TB w' := Lib.tabBelow_of_tabIs h w' hb
theorem formatInt (n : Int) (h0 : -9223372036854775808 ≤ n) (h1 : n ≤ 9223372036854775807) (w : World) (ht : TB w) :
    Calls Tryd.prog 20 #[.int .i64 n, .int .i64 10] w fun e w' => e = .returned (.string ⟨(Lib.itoa n).toArray⟩) ∧ Below w.heap.size w w' :=
  (Tryd.strconv_FormatInt_10 n h0 h1 w ht).mono fun e w' ⟨he, k, os, hw⟩ => ⟨he, by rw [hw]; exact Lib.below_grow _ w (Nat.le_refl _) k os⟩
end Go.Proofs.YtdklgllbemiicaaDoor.Tb
