/- The internet sum does not hang on the order of parts of an even number of bytes, and a row with its sum behind it holds (at most 1000 bytes each).
   Condition: none beyond what the row itself says of its inputs. -/
import Derived.Test.YtdclgppcemjcdaaLSumLaws
namespace Go.Proofs.Ytdclgppcemjcdaa.Pure
open Go.Proofs.Ytdclgppcemjcdaa.PSum
theorem SumParts : crossroadslaw02_SumParts.Pure := SumParts_pure
end Go.Proofs.Ytdclgppcemjcdaa.Pure
