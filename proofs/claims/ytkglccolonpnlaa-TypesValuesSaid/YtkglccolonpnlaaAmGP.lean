/- decimal: plus, less; exciseref02: plus, minus. -/
import Derived.Test.YtkglccolonpnlaaAmGH
import Derived.Test.YtkglccolonpnlaaAmGU
set_option linter.unusedVariables false
set_option linter.unusedSimpArgs false
set_option maxRecDepth 100000
namespace Go.Proofs.Ytkglccolonpnlaa
open Go.AM
end Go.Proofs.Ytkglccolonpnlaa
set_option linter.unusedVariables false
set_option linter.unusedSimpArgs false
set_option maxRecDepth 100000
namespace Go.Proofs.Ytkglccolonpnlaa
open Go.AM
end Go.Proofs.Ytkglccolonpnlaa
set_option linter.unusedVariables false
set_option linter.unusedSimpArgs false
set_option maxRecDepth 100000
namespace Go.Proofs.Ytkglccolonpnlaa
open Go.AM
theorem times18 (a : N) {p : Int} (h1 : p ≤ 18) : 0 ≤ a.v * tenP p ∧ a.v * tenP p ≤ (B4 - 1) * 1000000000000000000 := by
  have ha := a.h
  have hp := tenP_pos p
  have hq : tenP p ≤ 1000000000000000000 := by
    have h2 : (10 : Int) ^ p.toNat ≤ 10 ^ 18 := by
      have := Nat.pow_le_pow_right (n := 10) (by decide) (show p.toNat ≤ 18 by omega)
      exact_mod_cast this
    exact h2
  constructor
  · exact Int.mul_nonneg ha.1 (by omega)
  · exact Int.mul_le_mul (by have := ha.2; omega) hq (by omega) (by decide)
end Go.Proofs.Ytkglccolonpnlaa
set_option linter.unusedVariables false
set_option linter.unusedSimpArgs false
set_option maxRecDepth 100000
namespace Go.Proofs.Ytkglccolonpnlaa
open Go.AM
end Go.Proofs.Ytkglccolonpnlaa
set_option linter.unusedVariables false
set_option linter.unusedSimpArgs false
set_option maxRecDepth 100000
namespace Go.Proofs.Ytkglccolonpnlaa
open Go.AM
end Go.Proofs.Ytkglccolonpnlaa
set_option linter.unusedVariables false
set_option linter.unusedSimpArgs false
set_option maxRecDepth 100000
namespace Go.Proofs.Ytkglccolonpnlaa
open Go.AM
end Go.Proofs.Ytkglccolonpnlaa
set_option linter.unusedVariables false
set_option linter.unusedSimpArgs false
set_option maxRecDepth 100000
namespace Go.Proofs.Ytkglccolonpnlaa
open Go.AM
end Go.Proofs.Ytkglccolonpnlaa
set_option linter.unusedVariables false
set_option linter.unusedSimpArgs false
set_option maxRecDepth 100000
namespace Go.Proofs.Ytkglccolonpnlaa
open Go.AM
end Go.Proofs.Ytkglccolonpnlaa
