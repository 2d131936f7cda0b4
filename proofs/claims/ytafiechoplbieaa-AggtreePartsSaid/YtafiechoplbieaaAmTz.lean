/- exciselaw06.begun. -/
import Derived.Test.YtafiechoplbieaaAmGB
import Derived.Test.YtafiechoplbieaaAmCk
set_option linter.unusedVariables false
set_option linter.unusedSimpArgs false
set_option maxRecDepth 100000
namespace Go.Proofs.Ytafiechoplbieaa
open Go.AM
def noRaise (_ : Nat) (_ : List Oper) : Bool := false
theorem runO {fuel d f : Nat} {xs : List Val} {h : List Blk} {v : Val} {h1 : List Blk} (e : fnE Try.prog tab noRaise (known []) fuel d f xs h = some (v, h1)) : Ret Try.prog f xs h v h1 :=
  fnE_ok tok mixed (known_ok (l := []) trivial) d f xs h v h1 e
theorem begun6 : Ret Try.prog 8 [] [] (.bool true) [] := runO (fuel := 1000) (d := 40) (by kernel_rfl)
end Go.Proofs.Ytafiechoplbieaa

