/- octet.Put lays any number behind any bytes, or says why not, just as the reference does, and leaves the bytes alone (at most 300 bytes).
   Condition: none beyond what the row itself says of its inputs. -/
import Derived.Test.YtdclgppcemjcdaaLOctLaws
namespace Go.Proofs.Ytdclgppcemjcdaa.Pure
open Go.Proofs.Ytdclgppcemjcdaa.POct
theorem OctetPut : crossroadslaw01_OctetPut.Pure := OctetPut_pure
end Go.Proofs.Ytdclgppcemjcdaa.Pure
