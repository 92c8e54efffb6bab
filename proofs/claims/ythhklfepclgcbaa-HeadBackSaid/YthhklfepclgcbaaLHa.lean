/- Packets of OSPF: alive, and Accept. -/
import Derived.Test.YthhklfepclgcbaaLBase
import Derived.Test.YthhklfepclgcbaaFrd
set_option maxRecDepth 100000
set_option linter.unusedVariables false
set_option linter.unusedSimpArgs false
open Go Go.Proofs.Fr
namespace Go.Proofs.Ythhklfepclgcbaa.F
theorem aliveK : law09_alive.p () = some (true, ()) := by decide +kernel
end Go.Proofs.Ythhklfepclgcbaa.F
