/- A greeting is as an interface must have it, and sees it, just where the document says so (at most 1300 routers). Condition: none beyond the row's own of its inputs. -/
import Derived.Test.YtgfjhkapbpagcaaLHelloC
namespace Go.Proofs.Ytgfjhkapbpagcaa.Pure
open Go.Proofs.Ytgfjhkapbpagcaa.PAll
theorem HelloCheck : crossroadslaw10_HelloCheck.Pure := HelloCheck_pure
end Go.Proofs.Ytgfjhkapbpagcaa.Pure

