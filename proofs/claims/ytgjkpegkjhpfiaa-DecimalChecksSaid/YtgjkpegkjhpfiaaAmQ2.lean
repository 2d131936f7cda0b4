/- The laws DecimalProducts, DecimalCompares, DecimalChecks, DecimalScales, as contracts. -/
import Derived.Test.YtgjkpegkjhpfiaaAmQ0
set_option linter.unusedVariables false
set_option linter.unusedSimpArgs false
set_option maxRecDepth 100000
namespace Go.Proofs.Ytgjkpegkjhpfiaa
open Go.AM
theorem decimalProducts_ret (a b : D) (s p : Int) : Ret Try.prog 4 [eD a, eD b, .int .i64 s, .int .i64 p] [] (.bool true) [] := by
  refine ret_of_body atCalls tok mixed Try.func4 (by kernel_rfl) rfl (k := 66) (rs := [.tmp 8]) (by kernel_rfl) (by kernel_rfl) ?_
  (conv => whnf) <;> repeat' (first | (refine Need.mk (by first | decide | omega | (simp; done) | (simp; omega)) ?_; conv => whnf) | (refine Cond.tt rfl ?_; conv => whnf) | (refine Cond.ff rfl ?_; conv => whnf) | (refine Pick.tt rfl ?_; conv => whnf) | (refine Pick.ff rfl ?_; conv => whnf) | (refine Called.mk _ _ (begun) ?_; conv => whnf) | (refine Called.mk _ _ (dMul_ret a b) ?_; conv => whnf) | (refine Called.mk _ _ (rMulD_ret a b) ?_; conv => whnf) | (refine Called.mk _ _ (dMulTo_ret a b s p) ?_; conv => whnf) | (refine Called.mk _ _ (rMulTo_ret a b s p) ?_; conv => whnf) | (refine Pick.mk (fun h => ?_) (fun h => ?_) <;> conv => whnf) | (refine Cond.mk (fun h => ?_) (fun h => ?_) <;> conv => whnf))
  all_goals
    refine End.mk (bool_eq ?_) rfl
    simp_all
theorem decimalCompares_ret (a b : D) : Ret Try.prog 5 [eD a, eD b] [] (.bool true) [] := by
  refine ret_of_body atCalls tok mixed Try.func5 (by kernel_rfl) rfl (k := 15) (rs := [.tmp 4]) (by kernel_rfl) (by kernel_rfl) ?_
  (conv => whnf) <;> repeat' (first | (refine Need.mk (by first | decide | omega | (simp; done) | (simp; omega)) ?_; conv => whnf) | (refine Cond.tt rfl ?_; conv => whnf) | (refine Cond.ff rfl ?_; conv => whnf) | (refine Pick.tt rfl ?_; conv => whnf) | (refine Pick.ff rfl ?_; conv => whnf) | (refine Called.mk _ _ (begun) ?_; conv => whnf) | (refine Called.mk _ _ (DCmp_ret a b) ?_; conv => whnf) | (refine Called.mk _ _ (rCmpD_ret a b) ?_; conv => whnf) | (refine Pick.mk (fun h => ?_) (fun h => ?_) <;> conv => whnf) | (refine Cond.mk (fun h => ?_) (fun h => ?_) <;> conv => whnf))
  all_goals
    refine End.mk (bool_eq ?_) rfl
    simp_all
theorem decimalChecks_ret (a : D) (n s : Int) (hn : I64' n) : Ret Try.prog 6 [eD a, .int .i64 n, .int .i64 s] [] (.bool true) [] := by
  refine ret_of_body atCalls tok mixed Try.func6 (by kernel_rfl) rfl (k := 55) (rs := [.tmp 6]) (by kernel_rfl) (by kernel_rfl) ?_
  (conv => whnf) <;> repeat' (first | (refine Need.mk (by first | decide | omega | (simp; done) | (simp; omega)) ?_; conv => whnf) | (refine Cond.tt rfl ?_; conv => whnf) | (refine Cond.ff rfl ?_; conv => whnf) | (refine Pick.tt rfl ?_; conv => whnf) | (refine Pick.ff rfl ?_; conv => whnf) | (refine Called.mk _ _ (begun) ?_; conv => whnf) | (refine Called.mk _ _ (Check_ret a) ?_; conv => whnf) | (refine Called.mk _ _ (rCheck_ret a) ?_; conv => whnf) | (refine Called.mk _ _ (Sign_ret a) ?_; conv => whnf) | (refine Called.mk _ _ (rSign_ret a) ?_; conv => whnf) | (refine Called.mk _ _ (dWhole_ret a) ?_; conv => whnf) | (refine Called.mk _ _ (rWhole_ret a) ?_; conv => whnf) | (refine Called.mk _ _ (dOfInt_ret n s hn) ?_; conv => whnf) | (refine Called.mk _ _ (rOfInt_ret n s hn) ?_; conv => whnf) | (refine Pick.mk (fun h => ?_) (fun h => ?_) <;> conv => whnf) | (refine Cond.mk (fun h => ?_) (fun h => ?_) <;> conv => whnf))
  all_goals
    refine End.mk (bool_eq ?_) rfl
    unfold signD at *
    simp_all
theorem decimalScales_ret (a : D) (s p : Int) : Ret Try.prog 7 [eD a, .int .i64 s, .int .i64 p] [] (.bool true) [] := by
  refine ret_of_body atCalls tok mixed Try.func7 (by kernel_rfl) rfl (k := 108) (rs := [.tmp 6]) (by kernel_rfl) (by kernel_rfl) ?_
  (conv => whnf) <;> repeat' (first | (refine Need.mk (by first | decide | omega | (simp; done) | (simp; omega)) ?_; conv => whnf) | (refine Cond.tt rfl ?_; conv => whnf) | (refine Cond.ff rfl ?_; conv => whnf) | (refine Pick.tt rfl ?_; conv => whnf) | (refine Pick.ff rfl ?_; conv => whnf) | (refine Called.mk _ _ (begun) ?_; conv => whnf) | (refine Called.mk _ _ (dRescale_ret a s p) ?_; conv => whnf) | (refine Called.mk _ _ (rRescale_ret a s p) ?_; conv => whnf) | (refine Called.mk _ _ (dTrim_ret a) ?_; conv => whnf) | (refine Called.mk _ _ (rTrim_ret a) ?_; conv => whnf) | (refine Called.mk _ _ (dNeg_ret a) ?_; conv => whnf) | (refine Called.mk _ _ (rNeg_ret a) ?_; conv => whnf) | (refine Called.mk _ _ (dAbs_ret a) ?_; conv => whnf) | (refine Called.mk _ _ (rAbs_ret a) ?_; conv => whnf) | (refine Pick.mk (fun h => ?_) (fun h => ?_) <;> conv => whnf) | (refine Cond.mk (fun h => ?_) (fun h => ?_) <;> conv => whnf))
  all_goals
    refine End.mk (bool_eq ?_) rfl
    simp_all
end Go.Proofs.Ytgjkpegkjhpfiaa
