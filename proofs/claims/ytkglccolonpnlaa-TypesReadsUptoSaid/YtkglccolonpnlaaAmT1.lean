/- types.Type, Const, Fits; exciseref10's. -/
import Derived.Test.YtkglccolonpnlaaAmGW
import Derived.Test.YtkglccolonpnlaaAmTyp
set_option linter.unusedVariables false
set_option linter.unusedSimpArgs false
set_option maxRecDepth 100000
namespace Go.Proofs.Ytkglccolonpnlaa
open Go.AM
end Go.Proofs.Ytkglccolonpnlaa

