/- A row that fits does not with one byte that is another one, but 0 for 255; likewise a row whose internet sum stands in it (at most 2000 bytes).
   Condition: none beyond what the row itself says of its inputs. -/
import Derived.Test.YtdclgppcemjcdaaLSumLaws
namespace Go.Proofs.Ytdclgppcemjcdaa.Pure
open Go.Proofs.Ytdclgppcemjcdaa.PSum
theorem SumFound : crossroadslaw02_SumFound.Pure := SumFound_pure
end Go.Proofs.Ytdclgppcemjcdaa.Pure
