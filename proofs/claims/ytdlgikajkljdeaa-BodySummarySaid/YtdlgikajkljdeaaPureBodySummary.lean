/- A summary is written, and read off any bytes, as the document says, there and back (at most 1400 bytes). Condition: none beyond the row's own of its inputs. -/
import Derived.Test.YtdlgikajkljdeaaLBodyS
namespace Go.Proofs.Ytdlgikajkljdeaa.Pure
open Go.Proofs.Ytdlgikajkljdeaa.PBd
theorem BodySummary : crossroadslaw12_BodySummary.Pure := BodySummary_pure
end Go.Proofs.Ytdlgikajkljdeaa.Pure

