/- types.Type, Const, Fits; exciseref10's. -/
import Derived.Test.YthjgnmpnagmeoaaAmGW
import Derived.Test.YthjgnmpnagmeoaaAmTyp
set_option linter.unusedVariables false
set_option linter.unusedSimpArgs false
set_option maxRecDepth 100000
namespace Go.Proofs.Ythjgnmpnagmeoaa
open Go.AM
end Go.Proofs.Ythjgnmpnagmeoaa

