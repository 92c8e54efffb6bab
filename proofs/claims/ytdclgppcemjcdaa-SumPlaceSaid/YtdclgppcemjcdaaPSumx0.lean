-- Written by this session's own program (wip/print), out of the translation.
import Derived.Test.YtdclgppcemjcdaaProg
import Derived.Below
import Derived.Deep.Draws
import Derived.Deep.AppendLies
import Derived.Maps.AppendAt
import Derived.OwnWalk
import Derived.Laws.BytesArg
import Derived.Laws.MakeOwn
import Derived.Laws.OwnMore
import Derived.Deep.OwnRows
import Derived.Tactics
import Derived.Lib.ConvBytes
import Derived.Laws.Slices
import Derived.WalkKit
import Derived.KernelRfl
import Derived.RowKit3
import Derived.Deep.LoopGhost
import Derived.Deep.QuietTactic
import Derived.BigQuiet
import Derived.WideLaws
import Derived.Deep.DeepCutAuto
import Derived.Deep.CutBlock
import Derived.Deep.RegionHeld3
import Derived.Laws.Rows
import Derived.Lib.AppendStr
import Derived.ArgAppend
import Derived.Laws.IdiomCopy
import Derived.OrdersHeld
import Derived.Laws.BitsLemmas
import Derived.RowKit
import Derived.Test.YtdclgppcemjcdaaWWords
import Derived.Test.YtdclgppcemjcdaaWLast
import Derived.Test.YtdclgppcemjcdaaWTab
import Derived.Test.YtdclgppcemjcdaaWFour
import Derived.Test.YtdclgppcemjcdaaWQPut
import Derived.Test.YtdclgppcemjcdaaWApart
import Derived.Test.YtdclgppcemjcdaaWArr
import Derived.Test.YtdclgppcemjcdaaWZeros
import Derived.Test.YtdclgppcemjcdaaWFoot
import Derived.Test.YtdclgppcemjcdaaWKept
import Derived.Test.YtdclgppcemjcdaaWShare
import Derived.Test.YtdclgppcemjcdaaWN
import Derived.Test.YtdclgppcemjcdaaWFootNe
import Derived.Test.YtdclgppcemjcdaaWAt
import Derived.Test.YtdclgppcemjcdaaWEqStruct
import Derived.Test.YtdclgppcemjcdaaWRepsOne
import Derived.Test.YtdclgppcemjcdaaWInv
import Derived.Test.YtdclgppcemjcdaaWInvWords
import Derived.Test.YtdclgppcemjcdaaWGuard
import Derived.Test.YtdclgppcemjcdaaWNEv
import Derived.Test.YtdclgppcemjcdaaWMore
import Derived.Test.YtdclgppcemjcdaaZCap
import Derived.Test.YtdclgppcemjcdaaZFl
import Derived.Test.YtdclgppcemjcdaaZOpen
namespace Go.Proofs.Ytdclgppcemjcdaa.PSum
open Go.RowKit Go.Proofs.YtdclgppcemjcdaaW.PrintWords Go.Proofs.YtdclgppcemjcdaaW.PrintLast Go.Proofs.YtdclgppcemjcdaaW.PrintMore
attribute [local go_sem] max2_int min2_int max_two min_two max_three min_three max_four min_four   -- for this text's walks alone
set_option linter.unusedVariables false
set_option linter.unusedSimpArgs false



def errW : Option Int → Value
  | none => .nilIface
  | some c => .iface 0 (.int .i64 c)
theorem errW_none : errW none = .nilIface := rfl
theorem errW_some (c : Int) : errW (some c) = .iface 0 (.int .i64 c) := rfl

theorem info5 : (Try.prog.info? 5).map (fun i => (i.zero, i.size, i.bytes)) = some (some (.int .u8 0), 1, 1) := by kernel_rfl
-- the values' own types


end Go.Proofs.Ytdclgppcemjcdaa.PSum
