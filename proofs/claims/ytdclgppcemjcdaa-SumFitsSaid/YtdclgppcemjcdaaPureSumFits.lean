/- What sum.Place has placed fits, has no byte of 0 there, and is the row elsewhere (at most 2000 bytes).
   Condition: none beyond what the row itself says of its inputs. -/
import Derived.Test.YtdclgppcemjcdaaLSumLaws
namespace Go.Proofs.Ytdclgppcemjcdaa.Pure
open Go.Proofs.Ytdclgppcemjcdaa.PSum
theorem SumFits : crossroadslaw02_SumFits.Pure := SumFits_pure
end Go.Proofs.Ytdclgppcemjcdaa.Pure
