/- A head is written as the document says; its key, and the number behind its own, are the document's. Condition: none beyond the row's own of its inputs. -/
import Derived.Test.YtmeppheikmgoeaaLLsa
namespace Go.Proofs.Ytmeppheikmgoeaa.Pure
open Go.Proofs.Ytmeppheikmgoeaa.PLh
theorem LsaHeads : crossroadslaw11_LsaHeads.Pure := LsaHeads_pure
end Go.Proofs.Ytmeppheikmgoeaa.Pure

