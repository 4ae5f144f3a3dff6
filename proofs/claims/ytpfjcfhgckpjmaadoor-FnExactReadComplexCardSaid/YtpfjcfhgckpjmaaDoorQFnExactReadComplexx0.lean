/- Walks for the law FnExactReadComplex, written by a program of this claim; what they rest on stands in the texts beside. -/
import Derived.Test.YtpfjcfhgckpjmaaDoorProg
import Derived.Below
import Derived.Deep.Draws
import Derived.Deep.AppendLies
import Derived.Maps.AppendAt
import Derived.OwnWalk
import Derived.Laws.BytesArg
import Derived.Laws.MakeOwn
import Derived.Laws.OwnMore
import Derived.Deep.OwnRows
import Derived.Tactics
import Derived.Lib.ConvBytes
import Derived.Laws.Slices
import Derived.WalkKit
import Derived.KernelRfl
import Derived.RowKit3
import Derived.Deep.LoopGhost
import Derived.Deep.QuietTactic
import Derived.BigQuiet
import Derived.WideLaws
import Derived.Deep.DeepCutAuto
import Derived.Deep.CutBlock
import Derived.Deep.RegionHeld3
import Derived.Laws.Rows
import Derived.Lib.AppendStr
import Derived.ArgAppend
import Derived.Laws.IdiomCopy
import Derived.OrdersHeld
import Derived.Laws.BitsLemmas
import Derived.RowKit
import Derived.Test.YtpfjcfhgckpjmaaDoorWWords
import Derived.Test.YtpfjcfhgckpjmaaDoorWLast
import Derived.Test.YtpfjcfhgckpjmaaDoorWTab
import Derived.Test.YtpfjcfhgckpjmaaDoorWFour
import Derived.Test.YtpfjcfhgckpjmaaDoorWQPut
import Derived.Test.YtpfjcfhgckpjmaaDoorWApart
import Derived.Test.YtpfjcfhgckpjmaaDoorWArr
import Derived.Test.YtpfjcfhgckpjmaaDoorWZeros
import Derived.Test.YtpfjcfhgckpjmaaDoorWFoot
import Derived.Test.YtpfjcfhgckpjmaaDoorWKept
import Derived.Test.YtpfjcfhgckpjmaaDoorWShare
import Derived.Test.YtpfjcfhgckpjmaaDoorWN
import Derived.Test.YtpfjcfhgckpjmaaDoorWFootNe
import Derived.Test.YtpfjcfhgckpjmaaDoorWAt
import Derived.Test.YtpfjcfhgckpjmaaDoorWEqStruct
import Derived.Test.YtpfjcfhgckpjmaaDoorWRepsOne
import Derived.Test.YtpfjcfhgckpjmaaDoorWInv
import Derived.Test.YtpfjcfhgckpjmaaDoorWInvWords
import Derived.Test.YtpfjcfhgckpjmaaDoorWGuard
import Derived.Test.YtpfjcfhgckpjmaaDoorWNEv
import Derived.Test.YtpfjcfhgckpjmaaDoorWMore
import Derived.Test.YtpfjcfhgckpjmaaDoorFt
import Derived.Test.YtpfjcfhgckpjmaaDoorHb
import Derived.Test.YtpfjcfhgckpjmaaDoorHs
import Derived.Test.YtpfjcfhgckpjmaaDoorHc
namespace Go.Proofs.YtpfjcfhgckpjmaaDoor.QFnExactReadComplex
open Go.RowKit Go.Proofs.YtpfjcfhgckpjmaaDoorW.PrintWords Go.Proofs.YtpfjcfhgckpjmaaDoorW.PrintLast Go.Proofs.YtpfjcfhgckpjmaaDoorW.PrintMore
attribute [local go_sem] max2_int min2_int max_two min_two max_three min_three max_four min_four   -- for this text's walks alone
set_option linter.unusedVariables false
set_option linter.unusedSimpArgs false



def errW : Option Int → Value
  | none => .nilIface
  | some c => .iface 95 (.int .i64 c)
theorem errW_none : errW none = .nilIface := rfl
theorem errW_some (c : Int) : errW (some c) = .iface 95 (.int .i64 c) := rfl

theorem info5 : (Tryd.prog.info? 5).map (fun i => (i.zero, i.size, i.bytes)) = some (some (.int .u8 0), 1, 1) := by kernel_rfl
theorem info9 : (Tryd.prog.info? 9).map (fun i => (i.zero, i.size, i.bytes)) = some (some (.string ⟨#[]⟩), 1, 16) := by kernel_rfl
theorem info46 : (Tryd.prog.info? 46).map (fun i => (i.zero, i.size, i.bytes)) = some (some (.complex .f32 0 0), 1, 8) := by kernel_rfl
-- the values' own types

end Go.Proofs.YtpfjcfhgckpjmaaDoor.QFnExactReadComplex
