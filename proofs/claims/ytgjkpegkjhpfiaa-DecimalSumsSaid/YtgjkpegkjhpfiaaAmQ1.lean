/- The law DecimalSums, as a contract. -/
import Derived.Test.YtgjkpegkjhpfiaaAmQ0
set_option linter.unusedVariables false
set_option linter.unusedSimpArgs false
set_option maxRecDepth 100000
namespace Go.Proofs.Ytgjkpegkjhpfiaa
open Go.AM
theorem decimalSums_ret (a b : D) : Ret Try.prog 3 [eD a, eD b] [] (.bool true) [] := by
  refine ret_of_body atCalls tok mixed Try.func3 (by kernel_rfl) rfl (k := 58) (rs := [.tmp 4]) (by kernel_rfl) (by kernel_rfl) ?_
  (conv => whnf) <;> repeat' (first | (refine Need.mk (by first | decide | omega | (simp; done) | (simp; omega)) ?_; conv => whnf) | (refine Cond.tt rfl ?_; conv => whnf) | (refine Cond.ff rfl ?_; conv => whnf) | (refine Pick.tt rfl ?_; conv => whnf) | (refine Pick.ff rfl ?_; conv => whnf) | (refine Called.mk _ _ (begun) ?_; conv => whnf) | (refine Called.mk _ _ (dAdd_ret a b) ?_; conv => whnf) | (refine Called.mk _ _ (rAddD_ret a b) ?_; conv => whnf) | (refine Called.mk _ _ (dSub_ret a b) ?_; conv => whnf) | (refine Called.mk _ _ (rSubD_ret a b) ?_; conv => whnf) | (refine Pick.mk (fun h => ?_) (fun h => ?_) <;> conv => whnf) | (refine Cond.mk (fun h => ?_) (fun h => ?_) <;> conv => whnf))
  all_goals
    refine End.mk (bool_eq ?_) rfl
    simp_all
end Go.Proofs.Ytgjkpegkjhpfiaa
