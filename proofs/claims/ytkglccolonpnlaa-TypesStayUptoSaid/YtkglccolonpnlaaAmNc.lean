/- TypesLines, as a contract. -/
import Derived.Test.YtkglccolonpnlaaAmIb
import Derived.Test.YtkglccolonpnlaaAmIe
set_option linter.unusedVariables false
set_option linter.unusedSimpArgs false
set_option maxRecDepth 100000
namespace Go.Proofs.Ytkglccolonpnlaa
open Go.AM
end Go.Proofs.Ytkglccolonpnlaa

