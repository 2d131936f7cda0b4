/- Types and constants, as they are specified. -/
import Derived.Test.YtafiechoplbieaaAmGX
set_option linter.unusedVariables false
set_option linter.unusedSimpArgs false
set_option maxRecDepth 100000
namespace Go.AM
def typeE (k s : Int) : Int := if (k = 1 ∧ 0 ≤ s ∧ s ≤ 18) ∨ ((k = 2 ∨ k = 3) ∧ s = 0) then 0 else 100
def constE (v : Vl) : Int :=
  if v.kind = 1 then if v.num.ok then if v = numV v.num then 0 else 100 else 20
  else if v.kind = 2 then if v = flagV v.flag then 0 else 100
  else if v.kind = 3 then if v = textV v.text ∧ v.text.size ≤ 64 then 0 else 100 else 100
end Go.AM

