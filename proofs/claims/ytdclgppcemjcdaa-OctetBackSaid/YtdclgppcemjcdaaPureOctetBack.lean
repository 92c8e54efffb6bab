/- What octet.Put laid down octet.Take takes off, with the rest behind it, and octet.Rows reads a row as it was written (at most 300 bytes).
   Condition: none beyond what the row itself says of its inputs. -/
import Derived.Test.YtdclgppcemjcdaaLOctLaws
namespace Go.Proofs.Ytdclgppcemjcdaa.Pure
open Go.Proofs.Ytdclgppcemjcdaa.POct
theorem OctetBack : crossroadslaw01_OctetBack.Pure := OctetBack_pure
end Go.Proofs.Ytdclgppcemjcdaa.Pure
