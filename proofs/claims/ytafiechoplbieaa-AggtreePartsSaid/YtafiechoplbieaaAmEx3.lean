/- What comes of expressions and items may be. -/
import Derived.Test.YtafiechoplbieaaAmHj
set_option linter.unusedVariables false
set_option linter.unusedSimpArgs false
set_option maxRecDepth 100000
namespace Go.AM
end Go.AM

