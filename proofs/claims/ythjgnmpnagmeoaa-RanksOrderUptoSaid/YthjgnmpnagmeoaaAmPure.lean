/- Contracts out of what is known of calls that make nothing that the caller sees. -/
import Derived.Test.YthjgnmpnagmeoaaAmHn
set_option linter.unusedVariables false
set_option linter.unusedSimpArgs false
set_option maxRecDepth 100000
namespace Go.AM
open Go.RowKit
end Go.AM

