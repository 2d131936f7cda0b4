/- value: Check, Bad, flag, number, asked, of, may; exciseref13's. -/
import Derived.Test.YtlbocjcponegcaaGreatAmGQ
import Derived.Test.YtlbocjcponegcaaGreatAmGX
set_option linter.unusedVariables false
set_option linter.unusedSimpArgs false
set_option maxRecDepth 100000
namespace Go.Proofs.YtlbocjcponegcaaGreat
open Go.AM
end Go.Proofs.YtlbocjcponegcaaGreat

set_option linter.unusedVariables false
set_option linter.unusedSimpArgs false
set_option maxRecDepth 100000
namespace Go.Proofs.YtlbocjcponegcaaGreat
open Go.AM
end Go.Proofs.YtlbocjcponegcaaGreat

