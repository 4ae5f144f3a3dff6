/- Walks for the law FnExactIsTotal, written by a program of this claim; what they rest on stands in the texts beside. -/
import Derived.Test.YtcigmgocllnhfaaProg
import Derived.Below
import Derived.Deep.Draws
import Derived.Deep.AppendLies
import Derived.Maps.AppendAt
import Derived.OwnWalk
import Derived.Laws.BytesArg
import Derived.Laws.MakeOwn
import Derived.Laws.OwnMore
import Derived.Deep.OwnRows
import Derived.Tactics
import Derived.Lib.ConvBytes
import Derived.Laws.Slices
import Derived.WalkKit
import Derived.KernelRfl
import Derived.RowKit3
import Derived.Deep.LoopGhost
import Derived.Deep.QuietTactic
import Derived.BigQuiet
import Derived.WideLaws
import Derived.Deep.DeepCutAuto
import Derived.Deep.CutBlock
import Derived.Deep.RegionHeld3
import Derived.Laws.Rows
import Derived.Lib.AppendStr
import Derived.ArgAppend
import Derived.Laws.IdiomCopy
import Derived.OrdersHeld
import Derived.Laws.BitsLemmas
import Derived.RowKit
import Derived.Test.YtcigmgocllnhfaaWWords
import Derived.Test.YtcigmgocllnhfaaWLast
import Derived.Test.YtcigmgocllnhfaaWTab
import Derived.Test.YtcigmgocllnhfaaWFour
import Derived.Test.YtcigmgocllnhfaaWQPut
import Derived.Test.YtcigmgocllnhfaaWApart
import Derived.Test.YtcigmgocllnhfaaWArr
import Derived.Test.YtcigmgocllnhfaaWZeros
import Derived.Test.YtcigmgocllnhfaaWFoot
import Derived.Test.YtcigmgocllnhfaaWKept
import Derived.Test.YtcigmgocllnhfaaWShare
import Derived.Test.YtcigmgocllnhfaaWN
import Derived.Test.YtcigmgocllnhfaaWFootNe
import Derived.Test.YtcigmgocllnhfaaWAt
import Derived.Test.YtcigmgocllnhfaaWEqStruct
import Derived.Test.YtcigmgocllnhfaaWRepsOne
import Derived.Test.YtcigmgocllnhfaaWInv
import Derived.Test.YtcigmgocllnhfaaWInvWords
import Derived.Test.YtcigmgocllnhfaaWGuard
import Derived.Test.YtcigmgocllnhfaaWNEv
import Derived.Test.YtcigmgocllnhfaaWMore
import Derived.Test.YtcigmgocllnhfaaVa
import Derived.Test.YtcigmgocllnhfaaMp
namespace Go.Proofs.Ytcigmgocllnhfaa.QFnExactIsTotal
open Go.RowKit Go.Proofs.YtcigmgocllnhfaaW.PrintWords Go.Proofs.YtcigmgocllnhfaaW.PrintLast Go.Proofs.YtcigmgocllnhfaaW.PrintMore
attribute [local go_sem] max2_int min2_int max_two min_two max_three min_three max_four min_four   -- for this text's walks alone
set_option linter.unusedVariables false
set_option linter.unusedSimpArgs false



def errW : Option Int → Value
  | none => .nilIface
  | some c => .iface 0 (.int .i64 c)
theorem errW_none : errW none = .nilIface := rfl
theorem errW_some (c : Int) : errW (some c) = .iface 0 (.int .i64 c) := rfl

theorem info2 : (Try.prog.info? 2).map (fun i => (i.zero, i.size, i.bytes)) = some (some (.int .i64 0), 1, 8) := by kernel_rfl
-- the values' own types

end Go.Proofs.Ytcigmgocllnhfaa.QFnExactIsTotal
