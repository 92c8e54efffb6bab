/- octet.Take and octet.Cut take a number, or bytes, off any bytes, or say why not, just as the reference does, and leave the bytes alone (at most 300 bytes).
   Condition: none beyond what the row itself says of its inputs. -/
import Derived.Test.YtdclgppcemjcdaaLOctLaws
namespace Go.Proofs.Ytdclgppcemjcdaa.Pure
open Go.Proofs.Ytdclgppcemjcdaa.POct
theorem OctetTake : crossroadslaw01_OctetTake.Pure := OctetTake_pure
end Go.Proofs.Ytdclgppcemjcdaa.Pure
