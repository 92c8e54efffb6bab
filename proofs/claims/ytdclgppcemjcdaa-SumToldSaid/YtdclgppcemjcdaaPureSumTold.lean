/- sum.Pair, sum.Internet, sum.Holds and sum.Fits of any bytes are as the reference says, and the bytes stay (at most 2000 bytes).
   Condition: none beyond what the row itself says of its inputs. -/
import Derived.Test.YtdclgppcemjcdaaLSumLaws
namespace Go.Proofs.Ytdclgppcemjcdaa.Pure
open Go.Proofs.Ytdclgppcemjcdaa.PSum
theorem SumTold : crossroadslaw02_SumTold.Pure := SumTold_pure
end Go.Proofs.Ytdclgppcemjcdaa.Pure
