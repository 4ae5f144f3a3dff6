/- Walks for the law FnExactReadList, written by a program of this claim; what they rest on stands in the texts beside. -/
import Derived.Test.YtdklgllbemiicaaDoorProg
import Derived.Below
import Derived.Deep.Draws
import Derived.Deep.AppendLies
import Derived.Maps.AppendAt
import Derived.OwnWalk
import Derived.Laws.BytesArg
import Derived.Laws.MakeOwn
import Derived.Laws.OwnMore
import Derived.Deep.OwnRows
import Derived.Tactics
import Derived.Lib.ConvBytes
import Derived.Laws.Slices
import Derived.WalkKit
import Derived.KernelRfl
import Derived.RowKit3
import Derived.Deep.LoopGhost
import Derived.Deep.QuietTactic
import Derived.BigQuiet
import Derived.WideLaws
import Derived.Deep.DeepCutAuto
import Derived.Deep.CutBlock
import Derived.Deep.RegionHeld3
import Derived.Laws.Rows
import Derived.Lib.AppendStr
import Derived.ArgAppend
import Derived.Laws.IdiomCopy
import Derived.OrdersHeld
import Derived.Laws.BitsLemmas
import Derived.RowKit
import Derived.Test.YtdklgllbemiicaaDoorWWords
import Derived.Test.YtdklgllbemiicaaDoorWLast
import Derived.Test.YtdklgllbemiicaaDoorWTab
import Derived.Test.YtdklgllbemiicaaDoorWFour
import Derived.Test.YtdklgllbemiicaaDoorWQPut
import Derived.Test.YtdklgllbemiicaaDoorWApart
import Derived.Test.YtdklgllbemiicaaDoorWArr
import Derived.Test.YtdklgllbemiicaaDoorWZeros
import Derived.Test.YtdklgllbemiicaaDoorWFoot
import Derived.Test.YtdklgllbemiicaaDoorWKept
import Derived.Test.YtdklgllbemiicaaDoorWShare
import Derived.Test.YtdklgllbemiicaaDoorWN
import Derived.Test.YtdklgllbemiicaaDoorWFootNe
import Derived.Test.YtdklgllbemiicaaDoorWAt
import Derived.Test.YtdklgllbemiicaaDoorWEqStruct
import Derived.Test.YtdklgllbemiicaaDoorWRepsOne
import Derived.Test.YtdklgllbemiicaaDoorWInv
import Derived.Test.YtdklgllbemiicaaDoorWInvWords
import Derived.Test.YtdklgllbemiicaaDoorWGuard
import Derived.Test.YtdklgllbemiicaaDoorWNEv
import Derived.Test.YtdklgllbemiicaaDoorWMore
import Derived.Test.YtdklgllbemiicaaDoorTb
namespace Go.Proofs.YtdklgllbemiicaaDoor.QFnExactReadList
open Go.RowKit Go.Proofs.YtdklgllbemiicaaDoorW.PrintWords Go.Proofs.YtdklgllbemiicaaDoorW.PrintLast Go.Proofs.YtdklgllbemiicaaDoorW.PrintMore
attribute [local go_sem] max2_int min2_int max_two min_two max_three min_three max_four min_four   -- for this text's walks alone
set_option linter.unusedVariables false
set_option linter.unusedSimpArgs false



def errW : Option Int → Value
  | none => .nilIface
  | some c => .iface 0 (.int .i64 c)
theorem errW_none : errW none = .nilIface := rfl
theorem errW_some (c : Int) : errW (some c) = .iface 0 (.int .i64 c) := rfl

theorem info2 : (Tryd.prog.info? 2).map (fun i => (i.zero, i.size, i.bytes)) = some (some (.int .i64 0), 1, 8) := by kernel_rfl
theorem info5 : (Tryd.prog.info? 5).map (fun i => (i.zero, i.size, i.bytes)) = some (some (.int .u8 0), 1, 1) := by kernel_rfl
theorem info9 : (Tryd.prog.info? 9).map (fun i => (i.zero, i.size, i.bytes)) = some (some (.string ⟨#[]⟩), 1, 16) := by kernel_rfl
-- the values' own types

end Go.Proofs.YtdklgllbemiicaaDoor.QFnExactReadList
