/- What octet.Cut cuts off and the rest are the bytes, and octet.Row makes four bytes of each number, which octet.Rows reads back (at most 300 bytes, 100 numbers).
   Condition: none beyond what the row itself says of its inputs. -/
import Derived.Test.YtdclgppcemjcdaaLOctLaws
namespace Go.Proofs.Ytdclgppcemjcdaa.Pure
open Go.Proofs.Ytdclgppcemjcdaa.POct
theorem OctetCuts : crossroadslaw01_OctetCuts.Pure := OctetCuts_pure
end Go.Proofs.Ytdclgppcemjcdaa.Pure
