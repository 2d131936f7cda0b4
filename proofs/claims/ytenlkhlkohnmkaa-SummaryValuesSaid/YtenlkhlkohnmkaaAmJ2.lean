/- The law SummaryValues, as a contract. -/
import Derived.Test.YtenlkhlkohnmkaaAmGH
import Derived.Test.YtenlkhlkohnmkaaAmGJ
set_option linter.unusedVariables false
set_option linter.unusedSimpArgs false
set_option maxRecDepth 100000
namespace Go.Proofs.Ytenlkhlkohnmkaa
open Go.AM
theorem summaryValues_ret (op : Int) (s : Sm) (c : Int) (h0 : I64' s.rows) (h1 : I64' s.filled) : Ret Try.prog 11 [.int .i64 op, eS s, .int .i64 c] [] (.bool true) [] := by
  refine ret_of_body atCalls tok mixed Try.func11 (by kernel_rfl) rfl (k := 46) (rs := [.tmp 6]) (by kernel_rfl) (by kernel_rfl) ?_
  (conv => whnf) <;> repeat' (first | (refine Need.mk (by first | decide | omega | (simp; done) | (simp; omega)) ?_; conv => whnf) | (refine Cond.tt rfl ?_; conv => whnf) | (refine Cond.ff rfl ?_; conv => whnf) | (refine Pick.tt rfl ?_; conv => whnf) | (refine Pick.ff rfl ?_; conv => whnf) | (refine Called.mk _ _ (live5) ?_; conv => whnf) | (refine Called.mk _ _ (Total_ret s c) ?_; conv => whnf) | (refine Called.mk _ _ (rNarrow_ret s.total c) ?_; conv => whnf) | (refine Called.mk _ _ (Value_ret op s c h0 h1) ?_; conv => whnf) | (refine Called.mk _ _ (rValue_ret op s c h0 h1) ?_; conv => whnf) | (refine Pick.mk (fun h => ?_) (fun h => ?_) <;> conv => whnf) | (refine Cond.mk (fun h => ?_) (fun h => ?_) <;> conv => whnf))
  all_goals
    refine End.mk (bool_eq ?_) rfl
    simp_all
end Go.Proofs.Ytenlkhlkohnmkaa
