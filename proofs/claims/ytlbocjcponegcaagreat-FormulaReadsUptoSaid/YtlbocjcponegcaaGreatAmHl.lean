/- exciseref17.Eval: the nodes with arguments, kind by kind. -/
import Derived.Test.YtlbocjcponegcaaGreatAmHk
import Derived.Test.YtlbocjcponegcaaGreatAmV4
set_option linter.unusedVariables false
set_option linter.unusedSimpArgs false
set_option maxRecDepth 100000
namespace Go.Proofs.YtlbocjcponegcaaGreat
open Go.AM
end Go.Proofs.YtlbocjcponegcaaGreat

set_option linter.unusedVariables false
set_option linter.unusedSimpArgs false
set_option maxRecDepth 100000
namespace Go.Proofs.YtlbocjcponegcaaGreat
open Go.AM
end Go.Proofs.YtlbocjcponegcaaGreat

set_option linter.unusedVariables false
set_option linter.unusedSimpArgs false
set_option maxRecDepth 100000
namespace Go.Proofs.YtlbocjcponegcaaGreat
open Go.AM
theorem kids {Q : Xp → Prop} {k o : Int} {n s : ByteArray} {v : Vl} {sc p : Int} {l : List Xp} (ih : ∀ y, y ∈ (Xp.mk k o n s v sc p l).args → Q y) : ∀ y, y ∈ l → Q y := ih
end Go.Proofs.YtlbocjcponegcaaGreat

set_option linter.unusedVariables false
set_option linter.unusedSimpArgs false
set_option maxRecDepth 100000
namespace Go.Proofs.YtlbocjcponegcaaGreat
open Go.AM
end Go.Proofs.YtlbocjcponegcaaGreat

