/- The document's placing of Fletcher's pair: of all pairs the one that fits. -/
import Derived.Test.YtocloebloblodaaLSum
set_option maxRecDepth 100000
set_option linter.unusedVariables false
set_option linter.unusedSimpArgs false
open Go Go.Proofs.Fr
namespace Go.Proofs.Ytocloebloblodaa.F
def ynorm (y : Int) : Int := if y > 255 then y - 255 else y
end Go.Proofs.Ytocloebloblodaa.F
