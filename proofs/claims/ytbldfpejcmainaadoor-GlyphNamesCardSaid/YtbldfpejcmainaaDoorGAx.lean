-- Written by wip/tools/gprint.py of this session's repo, over the kit's print. Lean checks it.
import Derived.Test.YtbldfpejcmainaaDoorGAx0
import Derived.Test.YtbldfpejcmainaaDoorGAx1
import Derived.Test.YtbldfpejcmainaaDoorGAx2
import Derived.Test.YtbldfpejcmainaaDoorGAx3
import Derived.Test.YtbldfpejcmainaaDoorGAx4
import Derived.Test.YtbldfpejcmainaaDoorGAx5
namespace Go.Proofs.YtbldfpejcmainaaDoor.GA
open Go.RowKit Go.Proofs.YtbldfpejcmainaaDoorW.PrintWords Go.Proofs.YtbldfpejcmainaaDoorW.PrintLast Go.Proofs.YtbldfpejcmainaaDoorW.PrintMore
attribute [local go_sem] max2_int min2_int max_two min_two max_three min_three max_four min_four   -- for this text's walks alone
set_option linter.unusedVariables false
set_option linter.unusedSimpArgs false

end Go.Proofs.YtbldfpejcmainaaDoor.GA
