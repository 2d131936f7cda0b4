/- TypesValues, as a contract. -/
import Derived.Test.YtkglccolonpnlaaAmT1
import Derived.Test.YtkglccolonpnlaaAmT2
set_option linter.unusedVariables false
set_option linter.unusedSimpArgs false
set_option maxRecDepth 100000
namespace Go.Proofs.Ytkglccolonpnlaa
open Go.AM
theorem begun10 : Ret Try.prog 7 [] [] (.bool true) [] := c10b_ok
end Go.Proofs.Ytkglccolonpnlaa

