/- value: Not, If, Round, Blank, Fit, Neg; exciseref13's; live. -/
import Derived.Test.YtlbocjcponegcaaGreatAmGW
import Derived.Test.YtlbocjcponegcaaGreatAmGX
import Derived.Test.YtlbocjcponegcaaGreatAmQ0
import Derived.Test.YtlbocjcponegcaaGreatAmGE
set_option linter.unusedVariables false
set_option linter.unusedSimpArgs false
set_option maxRecDepth 100000
namespace Go.Proofs.YtlbocjcponegcaaGreat
open Go.AM
end Go.Proofs.YtlbocjcponegcaaGreat

