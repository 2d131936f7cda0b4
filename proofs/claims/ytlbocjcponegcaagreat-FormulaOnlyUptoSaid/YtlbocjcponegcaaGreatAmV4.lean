/- exciseref13: Not, Blank, Neg. -/
import Derived.Test.YtlbocjcponegcaaGreatAmGY
set_option linter.unusedVariables false
set_option linter.unusedSimpArgs false
set_option maxRecDepth 100000
namespace Go.Proofs.YtlbocjcponegcaaGreat
open Go.AM
end Go.Proofs.YtlbocjcponegcaaGreat

