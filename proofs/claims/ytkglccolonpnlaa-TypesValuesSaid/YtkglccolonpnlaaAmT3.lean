/- TypesValues, as a contract. -/
import Derived.Test.YtkglccolonpnlaaAmT1
import Derived.Test.YtkglccolonpnlaaAmT2
set_option linter.unusedVariables false
set_option linter.unusedSimpArgs false
set_option maxRecDepth 100000
namespace Go.Proofs.Ytkglccolonpnlaa
open Go.AM
theorem begun10 : Ret Try.prog 7 [] [] (.bool true) [] := c10b_ok
theorem typesValues_ret (v : Vl) (k s : Int) : Ret Try.prog 3 [eV v, .agg [.int .i64 k, .int .i64 s]] [] (.bool true) [] := by
  have h1 := tType_ret k s; have h2 := rtType_ret k s
  have h3 := tConst_ret v; have h4 := rtConst_ret v
  have h5 := tFits_ret v k s; have h6 := rtFits_ret v k s
  generalize typeE k s = x1 at *
  generalize constE v = x2 at *
  generalize fitsB v k s = x3 at *
  refine ret_of_body atCalls tok mixed Try.func3 (by kernel_rfl) rfl (k := 29) (rs := [.tmp 4]) (by kernel_rfl) (by kernel_rfl) ?_
  (conv => whnf) <;> repeat' (first | (refine Need.mk (by first | decide | omega | (simp; done) | (simp; omega)) ?_; conv => whnf) | (refine Cond.tt rfl ?_; conv => whnf) | (refine Cond.ff rfl ?_; conv => whnf) | (refine Pick.tt rfl ?_; conv => whnf) | (refine Pick.ff rfl ?_; conv => whnf) | (refine Called.mk _ _ (begun10) ?_; conv => whnf) | (refine Called.mk _ _ (h1) ?_; conv => whnf) | (refine Called.mk _ _ (h2) ?_; conv => whnf) | (refine Called.mk _ _ (h3) ?_; conv => whnf) | (refine Called.mk _ _ (h4) ?_; conv => whnf) | (refine Called.mk _ _ (h5) ?_; conv => whnf) | (refine Called.mk _ _ (h6) ?_; conv => whnf) | (refine Cond.tt (by first | assumption | exact decT (by first | assumption | omega)) ?_; conv => whnf) | (refine Cond.ff (by first | assumption | exact decF (by first | assumption | omega)) ?_; conv => whnf) | (refine Pick.tt (by first | assumption | exact decT (by first | assumption | omega)) ?_; conv => whnf) | (refine Pick.ff (by first | assumption | exact decF (by first | assumption | omega)) ?_; conv => whnf) | (refine Cond.tt (by exact decNT (by first | assumption | omega)) ?_; conv => whnf) | (refine Cond.ff (by exact decNF (by first | assumption | omega)) ?_; conv => whnf) | (refine Pick.tt (by exact decNT (by first | assumption | omega)) ?_; conv => whnf) | (refine Pick.ff (by exact decNF (by first | assumption | omega)) ?_; conv => whnf) | (refine Pick.dec (fun h => ?_) (fun h => ?_) <;> conv => whnf) | (refine Pick.beq (fun h => ?_) (fun h => ?_) <;> conv => whnf) | (refine Cond.dec (fun h => ?_) (fun h => ?_) <;> conv => whnf) | (refine Cond.beq (fun h => ?_) (fun h => ?_) <;> conv => whnf) | (refine Cond.nd (fun h => ?_) (fun h => ?_) <;> conv => whnf) | (refine Pick.nd (fun h => ?_) (fun h => ?_) <;> conv => whnf) | (refine Pick.mk (fun h => ?_) (fun h => ?_) <;> conv => whnf) | (refine Cond.mk (fun h => ?_) (fun h => ?_) <;> conv => whnf))
  all_goals exact End.mk (bool_eq (by simp)) rfl
end Go.Proofs.Ytkglccolonpnlaa
