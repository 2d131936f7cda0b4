/- decimal: Check, times, compare, made, OfInt, Sign; exciseref02: Check. -/
import Derived.Test.YtlbocjcponegcaaGreatAmGC
import Derived.Test.YtlbocjcponegcaaGreatAmGU
set_option linter.unusedVariables false
set_option linter.unusedSimpArgs false
set_option maxRecDepth 100000
namespace Go.Proofs.YtlbocjcponegcaaGreat
open Go.AM
end Go.Proofs.YtlbocjcponegcaaGreat

