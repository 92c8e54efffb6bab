/- An external is written, and read off any bytes, as the document says, there and back (at most 1400 bytes). Condition: none beyond the row's own of its inputs. -/
import Derived.Test.YtdlgikajkljdeaaLExtE
namespace Go.Proofs.Ytdlgikajkljdeaa.Pure
open Go.Proofs.Ytdlgikajkljdeaa.PBd
theorem BodyExternal : crossroadslaw12_BodyExternal.Pure := BodyExternal_pure
end Go.Proofs.Ytdlgikajkljdeaa.Pure

