/- value: Check, Bad, flag, number, asked, of, may; exciseref13's. -/
import Derived.Test.YtkglccolonpnlaaAmGQ
import Derived.Test.YtkglccolonpnlaaAmGX
set_option linter.unusedVariables false
set_option linter.unusedSimpArgs false
set_option maxRecDepth 100000
namespace Go.Proofs.Ytkglccolonpnlaa
open Go.AM
end Go.Proofs.Ytkglccolonpnlaa

