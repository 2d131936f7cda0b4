/- value: Check, Bad, flag, number, asked, of, may; exciseref13's. -/
import Derived.Test.YtkglccolonpnlaaAmGQ
import Derived.Test.YtkglccolonpnlaaAmGX
set_option linter.unusedVariables false
set_option linter.unusedSimpArgs false
set_option maxRecDepth 100000
namespace Go.Proofs.Ytkglccolonpnlaa
open Go.AM
theorem nt {X : Bool} (h : (!X) = true) : X = false := by simpa using h
theorem nf {X : Bool} (h : (!X) = false) : X = true := by simpa using h
end Go.Proofs.Ytkglccolonpnlaa

