/- value: Check, Bad, flag, number, asked, of, may; exciseref13's. -/
import Derived.Test.YthjgnmpnagmeoaaAmGQ
import Derived.Test.YthjgnmpnagmeoaaAmGX
set_option linter.unusedVariables false
set_option linter.unusedSimpArgs false
set_option maxRecDepth 100000
namespace Go.Proofs.Ythjgnmpnagmeoaa
open Go.AM
end Go.Proofs.Ythjgnmpnagmeoaa

