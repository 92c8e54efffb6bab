-- Written by this session's own program (wip/print), out of the translation.
import Derived.Test.YtgfjhkapbpagcaaProg
import Derived.Below
import Derived.Deep.Draws
import Derived.Deep.AppendLies
import Derived.Maps.AppendAt
import Derived.OwnWalk
import Derived.Laws.BytesArg
import Derived.Laws.MakeOwn
import Derived.Laws.OwnMore
import Derived.Deep.OwnRows
import Derived.Tactics
import Derived.Lib.ConvBytes
import Derived.Laws.Slices
import Derived.WalkKit
import Derived.KernelRfl
import Derived.RowKit3
import Derived.Deep.LoopGhost
import Derived.Deep.QuietTactic
import Derived.BigQuiet
import Derived.WideLaws
import Derived.Deep.DeepCutAuto
import Derived.Deep.CutBlock
import Derived.Deep.RegionHeld3
import Derived.Laws.Rows
import Derived.Lib.AppendStr
import Derived.ArgAppend
import Derived.Laws.IdiomCopy
import Derived.OrdersHeld
import Derived.Laws.BitsLemmas
import Derived.RowKit
import Derived.Test.YtgfjhkapbpagcaaWWords
import Derived.Test.YtgfjhkapbpagcaaWLast
import Derived.Test.YtgfjhkapbpagcaaWTab
import Derived.Test.YtgfjhkapbpagcaaWFour
import Derived.Test.YtgfjhkapbpagcaaWQPut
import Derived.Test.YtgfjhkapbpagcaaWApart
import Derived.Test.YtgfjhkapbpagcaaWArr
import Derived.Test.YtgfjhkapbpagcaaWZeros
import Derived.Test.YtgfjhkapbpagcaaWFoot
import Derived.Test.YtgfjhkapbpagcaaWKept
import Derived.Test.YtgfjhkapbpagcaaWShare
import Derived.Test.YtgfjhkapbpagcaaWN
import Derived.Test.YtgfjhkapbpagcaaWFootNe
import Derived.Test.YtgfjhkapbpagcaaWAt
import Derived.Test.YtgfjhkapbpagcaaWEqStruct
import Derived.Test.YtgfjhkapbpagcaaWRepsOne
import Derived.Test.YtgfjhkapbpagcaaWInv
import Derived.Test.YtgfjhkapbpagcaaWInvWords
import Derived.Test.YtgfjhkapbpagcaaWGuard
import Derived.Test.YtgfjhkapbpagcaaWNEv
import Derived.Test.YtgfjhkapbpagcaaWMore
import Derived.Test.YtgfjhkapbpagcaaZCap
import Derived.Test.YtgfjhkapbpagcaaZFalse
import Derived.Test.YtgfjhkapbpagcaaZFl
import Derived.Test.YtgfjhkapbpagcaaZOpen
namespace Go.Proofs.Ytgfjhkapbpagcaa.PHd
open Go.RowKit Go.Proofs.YtgfjhkapbpagcaaW.PrintWords Go.Proofs.YtgfjhkapbpagcaaW.PrintLast Go.Proofs.YtgfjhkapbpagcaaW.PrintMore
attribute [local go_sem] max2_int min2_int max_two min_two max_three min_three max_four min_four   -- for this text's walks alone
set_option linter.unusedVariables false
set_option linter.unusedSimpArgs false



def errW : Option Int → Value
  | none => .nilIface
  | some c => .iface 0 (.int .i64 c)
theorem errW_none : errW none = .nilIface := rfl
theorem errW_some (c : Int) : errW (some c) = .iface 0 (.int .i64 c) := rfl

theorem info5 : (Try.prog.info? 5).map (fun i => (i.zero, i.size, i.bytes)) = some (some (.int .u8 0), 1, 1) := by kernel_rfl
theorem info22 : (Try.prog.info? 22).map (fun i => (i.zero, i.size, i.bytes)) = some (some (.int .u32 0), 1, 4) := by kernel_rfl
-- the values' own types


end Go.Proofs.Ytgfjhkapbpagcaa.PHd
