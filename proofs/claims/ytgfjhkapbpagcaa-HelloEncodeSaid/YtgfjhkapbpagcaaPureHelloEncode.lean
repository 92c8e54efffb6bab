/- A greeting is written as the document says, and may be written just where it says so (at most 1300 routers). Condition: none beyond the row's own of its inputs. -/
import Derived.Test.YtgfjhkapbpagcaaLHelloE
namespace Go.Proofs.Ytgfjhkapbpagcaa.Pure
open Go.Proofs.Ytgfjhkapbpagcaa.PAll
theorem HelloEncode : crossroadslaw10_HelloEncode.Pure := HelloEncode_pure
end Go.Proofs.Ytgfjhkapbpagcaa.Pure

