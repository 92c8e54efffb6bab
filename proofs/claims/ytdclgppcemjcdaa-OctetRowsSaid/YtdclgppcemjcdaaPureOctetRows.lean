/- octet.Row and octet.Rows turn any numbers into bytes, and any bytes into numbers, or say why not, just as the reference does (at most 100 numbers, 300 bytes).
   Condition: none beyond what the row itself says of its inputs. -/
import Derived.Test.YtdclgppcemjcdaaLOctLaws
namespace Go.Proofs.Ytdclgppcemjcdaa.Pure
open Go.Proofs.Ytdclgppcemjcdaa.POct
theorem OctetRows : crossroadslaw01_OctetRows.Pure := OctetRows_pure
end Go.Proofs.Ytdclgppcemjcdaa.Pure
