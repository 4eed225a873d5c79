-- PRINTED by print.py (a twelfth state) out of the translation. Not trusted: Lean checks it.
import Derived.Test.YtfnlgpngnknkmaaDoorFx0
import Derived.Test.YtfnlgpngnknkmaaDoorFx1
import Derived.Test.YtfnlgpngnknkmaaDoorFx2
import Derived.Test.YtfnlgpngnknkmaaDoorFx3
import Derived.Test.YtfnlgpngnknkmaaDoorFx4
namespace Go.Proofs.YtfnlgpngnknkmaaDoor.F
open Go.RowKit Go.Proofs.YtfnlgpngnknkmaaDoorW.PrintWords Go.Proofs.YtfnlgpngnknkmaaDoorW.PrintLast Go.Proofs.YtfnlgpngnknkmaaDoorW.PrintMore
attribute [local go_sem] max2_int min2_int max_two min_two max_three min_three max_four min_four   -- for this text's walks alone
set_option linter.unusedVariables false
set_option linter.unusedSimpArgs false

end Go.Proofs.YtfnlgpngnknkmaaDoor.F
