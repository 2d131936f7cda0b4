/- limb and exciseref01: From, Add, Sub. -/
import Derived.Test.YtkglccolonpnlaaAmA0
import Derived.Test.YtkglccolonpnlaaAmLib
set_option linter.unusedVariables false
set_option linter.unusedSimpArgs false
set_option maxRecDepth 100000
namespace Go.Proofs.Ytkglccolonpnlaa
open Go.AM
end Go.Proofs.Ytkglccolonpnlaa

set_option linter.unusedVariables false
set_option linter.unusedSimpArgs false
set_option maxRecDepth 100000
namespace Go.Proofs.Ytkglccolonpnlaa
open Go.AM
end Go.Proofs.Ytkglccolonpnlaa

set_option linter.unusedVariables false
set_option linter.unusedSimpArgs false
set_option maxRecDepth 100000
namespace Go.Proofs.Ytkglccolonpnlaa
open Go.AM
end Go.Proofs.Ytkglccolonpnlaa

set_option linter.unusedVariables false
set_option linter.unusedSimpArgs false
set_option maxRecDepth 100000
namespace Go.Proofs.Ytkglccolonpnlaa
open Go.AM
end Go.Proofs.Ytkglccolonpnlaa

set_option linter.unusedVariables false
set_option linter.unusedSimpArgs false
set_option maxRecDepth 100000
namespace Go.Proofs.Ytkglccolonpnlaa
open Go.AM
end Go.Proofs.Ytkglccolonpnlaa

set_option linter.unusedVariables false
set_option linter.unusedSimpArgs false
set_option maxRecDepth 100000
namespace Go.Proofs.Ytkglccolonpnlaa
open Go.AM
end Go.Proofs.Ytkglccolonpnlaa

set_option linter.unusedVariables false
set_option linter.unusedSimpArgs false
set_option maxRecDepth 100000
namespace Go.Proofs.Ytkglccolonpnlaa
open Go.AM
end Go.Proofs.Ytkglccolonpnlaa

