/- decimal: Check, times, compare, made, OfInt, Sign; exciseref02: Check. -/
import Derived.Test.YtkglccolonpnlaaAmGC
import Derived.Test.YtkglccolonpnlaaAmGU
set_option linter.unusedVariables false
set_option linter.unusedSimpArgs false
set_option maxRecDepth 100000
namespace Go.Proofs.Ytkglccolonpnlaa
open Go.AM
theorem Check_ret (d : D) : Ret Try.prog 29 [eD d] [] (.int .i64 (check d)) [] := by
  refine ret_of_body atNone tok mixed Try.func29 (by kernel_rfl) rfl (k := 21) (rs := [.tmp 2]) (by kernel_rfl) (by kernel_rfl) ?_
  (conv => whnf) <;> repeat' (first | (rw [eqN_zero]; conv => whnf) | ((first | refine wN ?_ | refine wA ?_ | refine wB ?_ | refine wC ?_ | refine wD ?_ | refine vA ?_ | refine vB ?_ | refine vC ?_ | refine vD ?_); conv => whnf) | ((first | refine Pick.dec (fun h => ?_) (fun h => ?_) | refine Pick.beq (fun h => ?_) (fun h => ?_) | refine Cond.dec (fun h => ?_) (fun h => ?_) | refine Cond.beq (fun h => ?_) (fun h => ?_) | refine Cond.nd (fun h => ?_) (fun h => ?_) | refine Pick.nd (fun h => ?_) (fun h => ?_) | refine Pick.mk (fun h => ?_) (fun h => ?_) | refine Cond.mk (fun h => ?_) (fun h => ?_)) <;> conv => whnf))
  all_goals
    refine End.mk (int_eq ?_) rfl
    first
      | (rw [check_ok ⟨by omega, by omega, fun hc => by simp_all⟩]; done)
      | (rw [check_bad (fun hc => by obtain ⟨h1, h2, h3⟩ := hc; first | omega | simp_all)]; done)
end Go.Proofs.Ytkglccolonpnlaa

