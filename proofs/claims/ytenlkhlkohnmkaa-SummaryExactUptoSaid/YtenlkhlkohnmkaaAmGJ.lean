/- exciselaw05: live. -/
import Derived.Test.YtenlkhlkohnmkaaAmGH
import Derived.Test.YtenlkhlkohnmkaaAmGB
set_option linter.unusedVariables false
set_option linter.unusedSimpArgs false
set_option maxRecDepth 100000
namespace Go.Proofs.Ytenlkhlkohnmkaa
open Go.AM
theorem live5 : Ret Try.prog 36 [] [] (.bool true) [] := run1 (fuel := 1000) (d := 20) (by kernel_rfl)
end Go.Proofs.Ytenlkhlkohnmkaa
set_option linter.unusedVariables false
set_option linter.unusedSimpArgs false
set_option maxRecDepth 100000
namespace Go.Proofs.Ytenlkhlkohnmkaa
open Go.AM
theorem summaryOf_ret (v : Vl) (s : Int) : Ret Try.prog 10 [eV v, .int .i64 s] [] (.bool true) [] := by
  refine ret_of_body atCalls tok mixed Try.func10 (by kernel_rfl) rfl (k := 15) (rs := [.tmp 4]) (by kernel_rfl) (by kernel_rfl) ?_
  (conv => whnf) <;> repeat' (first | (refine Need.mk (by first | decide | omega | (simp; done) | (simp; omega)) ?_; conv => whnf) | (refine Cond.tt rfl ?_; conv => whnf) | (refine Cond.ff rfl ?_; conv => whnf) | (refine Pick.tt rfl ?_; conv => whnf) | (refine Pick.ff rfl ?_; conv => whnf) | (refine Called.mk _ _ (live5) ?_; conv => whnf) | (refine Called.mk _ _ (Of_ret v s) ?_; conv => whnf) | (refine Called.mk _ _ (rOf_ret v s) ?_; conv => whnf) | (refine Pick.mk (fun h => ?_) (fun h => ?_) <;> conv => whnf) | (refine Cond.mk (fun h => ?_) (fun h => ?_) <;> conv => whnf))
  all_goals
    refine End.mk (bool_eq ?_) rfl
    simp_all
theorem summaryWide_ret (a b : Wd) (d : D) : Ret Try.prog 12 [eWd a, eWd b, eD d] [] (.bool true) [] := by
  refine ret_of_body atCalls tok mixed Try.func12 (by kernel_rfl) rfl (k := 52) (rs := [.tmp 6]) (by kernel_rfl) (by kernel_rfl) ?_
  (conv => whnf) <;> repeat' (first | (refine Need.mk (by first | decide | omega | (simp; done) | (simp; omega)) ?_; conv => whnf) | (refine Cond.tt rfl ?_; conv => whnf) | (refine Cond.ff rfl ?_; conv => whnf) | (refine Pick.tt rfl ?_; conv => whnf) | (refine Pick.ff rfl ?_; conv => whnf) | (refine Called.mk _ _ (live5) ?_; conv => whnf) | (refine Called.mk _ _ (Narrow_ret a d.scale) ?_; conv => whnf) | (refine Called.mk _ _ (rNarrow_ret a d.scale) ?_; conv => whnf) | (refine Called.mk _ _ (AddWide_ret a b) ?_; conv => whnf) | (refine Called.mk _ _ (rAddWide_ret a b) ?_; conv => whnf) | (refine Called.mk _ _ (Widen_ret d) ?_; conv => whnf) | (refine Called.mk _ _ (rWiden_ret d) ?_; conv => whnf) | (refine Pick.mk (fun h => ?_) (fun h => ?_) <;> conv => whnf) | (refine Cond.mk (fun h => ?_) (fun h => ?_) <;> conv => whnf))
  all_goals
    refine End.mk (bool_eq ?_) rfl
    simp_all
end Go.Proofs.Ytenlkhlkohnmkaa
