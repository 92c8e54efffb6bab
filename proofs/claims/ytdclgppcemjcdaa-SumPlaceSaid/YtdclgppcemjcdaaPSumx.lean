-- Written by this session's own program (wip/print), out of the translation.
import Derived.Test.YtdclgppcemjcdaaPSumx0
import Derived.Test.YtdclgppcemjcdaaPSumx1
import Derived.Test.YtdclgppcemjcdaaPSumx2
import Derived.Test.YtdclgppcemjcdaaPSumx3
import Derived.Test.YtdclgppcemjcdaaPSumx4
import Derived.Test.YtdclgppcemjcdaaPSumx5
namespace Go.Proofs.Ytdclgppcemjcdaa.PSum
open Go.RowKit Go.Proofs.YtdclgppcemjcdaaW.PrintWords Go.Proofs.YtdclgppcemjcdaaW.PrintLast Go.Proofs.YtdclgppcemjcdaaW.PrintMore
attribute [local go_sem] max2_int min2_int max_two min_two max_three min_three max_four min_four   -- for this text's walks alone
set_option linter.unusedVariables false
set_option linter.unusedSimpArgs false

end Go.Proofs.Ytdclgppcemjcdaa.PSum
