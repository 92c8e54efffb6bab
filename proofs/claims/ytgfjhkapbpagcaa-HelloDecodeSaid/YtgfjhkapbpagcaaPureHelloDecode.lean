/- The greeting of bytes is the document's, and encoded again it is the bytes (at most 1300 bytes). Condition: none beyond the row's own of its inputs. -/
import Derived.Test.YtgfjhkapbpagcaaLHelloDd
namespace Go.Proofs.Ytgfjhkapbpagcaa.Pure
open Go.Proofs.Ytgfjhkapbpagcaa.PHd
theorem HelloDecode : crossroadslaw10_HelloDecode.Pure := HelloDecode_pure
end Go.Proofs.Ytgfjhkapbpagcaa.Pure

