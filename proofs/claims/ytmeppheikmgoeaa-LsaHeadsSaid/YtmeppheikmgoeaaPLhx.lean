-- Written by this session's own program (wip/print), out of the translation.
import Derived.Test.YtmeppheikmgoeaaPLhx0
import Derived.Test.YtmeppheikmgoeaaPLhx1
import Derived.Test.YtmeppheikmgoeaaPLhx2
import Derived.Test.YtmeppheikmgoeaaPLhx3
import Derived.Test.YtmeppheikmgoeaaPLhx4
import Derived.Test.YtmeppheikmgoeaaPLhx5
namespace Go.Proofs.Ytmeppheikmgoeaa.PLh
open Go.RowKit Go.Proofs.YtmeppheikmgoeaaW.PrintWords Go.Proofs.YtmeppheikmgoeaaW.PrintLast Go.Proofs.YtmeppheikmgoeaaW.PrintMore
attribute [local go_sem] max2_int min2_int max_two min_two max_three min_three max_four min_four   -- for this text's walks alone
set_option linter.unusedVariables false
set_option linter.unusedSimpArgs false

end Go.Proofs.Ytmeppheikmgoeaa.PLh
