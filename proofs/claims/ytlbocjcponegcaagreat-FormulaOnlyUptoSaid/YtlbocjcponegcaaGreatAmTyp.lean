/- Types and constants, as they are specified. -/
import Derived.Test.YtlbocjcponegcaaGreatAmGX
set_option linter.unusedVariables false
set_option linter.unusedSimpArgs false
set_option maxRecDepth 100000
namespace Go.AM
end Go.AM

