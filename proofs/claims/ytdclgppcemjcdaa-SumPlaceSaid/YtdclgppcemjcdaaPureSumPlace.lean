/- sum.Place lays the Fletcher pair into any bytes, or says that it may not be, just as the reference does by search, and leaves the bytes alone (at most 2000 bytes).
   Condition: none beyond what the row itself says of its inputs. -/
import Derived.Test.YtdclgppcemjcdaaLSumLaws
namespace Go.Proofs.Ytdclgppcemjcdaa.Pure
open Go.Proofs.Ytdclgppcemjcdaa.PSum
theorem SumPlace : crossroadslaw02_SumPlace.Pure := SumPlace_pure
end Go.Proofs.Ytdclgppcemjcdaa.Pure
