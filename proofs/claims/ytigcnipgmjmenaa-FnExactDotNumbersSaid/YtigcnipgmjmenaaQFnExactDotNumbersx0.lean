/- Walks for the law FnExactDotNumbers, written by a program of this claim; what they rest on stands in the texts beside. -/
import Derived.Test.YtigcnipgmjmenaaProg
import Derived.Below
import Derived.Deep.Draws
import Derived.Deep.AppendLies
import Derived.Maps.AppendAt
import Derived.OwnWalk
import Derived.Laws.BytesArg
import Derived.Laws.MakeOwn
import Derived.Laws.OwnMore
import Derived.Deep.OwnRows
import Derived.Tactics
import Derived.Lib.ConvBytes
import Derived.Laws.Slices
import Derived.WalkKit
import Derived.KernelRfl
import Derived.RowKit3
import Derived.Deep.LoopGhost
import Derived.Deep.QuietTactic
import Derived.BigQuiet
import Derived.WideLaws
import Derived.Deep.DeepCutAuto
import Derived.Deep.CutBlock
import Derived.Deep.RegionHeld3
import Derived.Laws.Rows
import Derived.Lib.AppendStr
import Derived.ArgAppend
import Derived.Laws.IdiomCopy
import Derived.OrdersHeld
import Derived.Laws.BitsLemmas
import Derived.RowKit
import Derived.Test.YtigcnipgmjmenaaWWords
import Derived.Test.YtigcnipgmjmenaaWLast
import Derived.Test.YtigcnipgmjmenaaWTab
import Derived.Test.YtigcnipgmjmenaaWFour
import Derived.Test.YtigcnipgmjmenaaWQPut
import Derived.Test.YtigcnipgmjmenaaWApart
import Derived.Test.YtigcnipgmjmenaaWArr
import Derived.Test.YtigcnipgmjmenaaWZeros
import Derived.Test.YtigcnipgmjmenaaWFoot
import Derived.Test.YtigcnipgmjmenaaWKept
import Derived.Test.YtigcnipgmjmenaaWShare
import Derived.Test.YtigcnipgmjmenaaWN
import Derived.Test.YtigcnipgmjmenaaWFootNe
import Derived.Test.YtigcnipgmjmenaaWAt
import Derived.Test.YtigcnipgmjmenaaWEqStruct
import Derived.Test.YtigcnipgmjmenaaWRepsOne
import Derived.Test.YtigcnipgmjmenaaWInv
import Derived.Test.YtigcnipgmjmenaaWInvWords
import Derived.Test.YtigcnipgmjmenaaWGuard
import Derived.Test.YtigcnipgmjmenaaWNEv
import Derived.Test.YtigcnipgmjmenaaWMore
import Derived.Test.YtigcnipgmjmenaaFt
namespace Go.Proofs.Ytigcnipgmjmenaa.QFnExactDotNumbers
open Go.RowKit Go.Proofs.YtigcnipgmjmenaaW.PrintWords Go.Proofs.YtigcnipgmjmenaaW.PrintLast Go.Proofs.YtigcnipgmjmenaaW.PrintMore
attribute [local go_sem] max2_int min2_int max_two min_two max_three min_three max_four min_four   -- for this text's walks alone
set_option linter.unusedVariables false
set_option linter.unusedSimpArgs false



def errW : Option Int → Value
  | none => .nilIface
  | some c => .iface 0 (.int .i64 c)
theorem errW_none : errW none = .nilIface := rfl
theorem errW_some (c : Int) : errW (some c) = .iface 0 (.int .i64 c) := rfl

theorem info22 : (Try.prog.info? 22).map (fun i => (i.zero, i.size, i.bytes)) = some (some (.float .f32 0), 1, 4) := by kernel_rfl
-- the values' own types

end Go.Proofs.Ytigcnipgmjmenaa.QFnExactDotNumbers
