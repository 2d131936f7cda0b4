/- The laws LimbProducts, LimbOrder, as contracts. -/
import Derived.Test.YtenlkhlkohnmkaaAmB0
set_option linter.unusedVariables false
set_option linter.unusedSimpArgs false
set_option maxRecDepth 100000
namespace Go.Proofs.Ytenlkhlkohnmkaa
open Go.AM
theorem limbProducts_ret (a b : N) : Ret Try.prog 3 [eN a, eN b] [] (.bool true) [] := by
  refine ret_of_body atNone tok mixed Try.func3 (by kernel_rfl) rfl (k := 32) (rs := [.tmp 4]) (by kernel_rfl) (by kernel_rfl) ?_
  (conv => whnf) <;> repeat' (first | (refine Need.mk (by first | decide | omega | (simp; done) | (simp; omega)) ?_; conv => whnf) | (refine Cond.tt rfl ?_; conv => whnf) | (refine Cond.ff rfl ?_; conv => whnf) | (refine Pick.tt rfl ?_; conv => whnf) | (refine Pick.ff rfl ?_; conv => whnf) | (refine Called.mk _ _ (MulN a b) ?_; conv => whnf) | (refine Called.mk _ _ (rMulN a b) ?_; conv => whnf) | (refine Called.mk _ _ (live1) ?_; conv => whnf) | (refine Pick.mk (fun h => ?_) (fun h => ?_) <;> conv => whnf) | (refine Cond.mk (fun h => ?_) (fun h => ?_) <;> conv => whnf))
  all_goals
    refine End.mk (bool_eq ?_) rfl
    simp only [eqN_limbs] at *
    simp_all
set_option maxRecDepth 100000 in
theorem limbOrder_ret (a b c : N) : Ret Try.prog 4 [eN a, eN b, eN c] [] (.bool true) [] := by
  have e3 : mkN ((mkN (a.v + b.v)).v * c.v) = mkN ((mkN (a.v * c.v)).v + (mkN (b.v * c.v)).v) := by
    apply N.eq
    simp only [mkN]
    rw [Int.mul_emod ((a.v + b.v) % B4), Int.emod_emod, ← Int.mul_emod, ← Int.add_emod, Int.add_mul]
  refine ret_of_body atNone tok mixed Try.func4 (by kernel_rfl) rfl (k := 96) (rs := [.tmp 6]) (by kernel_rfl) (by kernel_rfl) ?_
  (conv => whnf) <;> repeat' (first | (refine Need.mk (by first | decide | omega | (simp; done) | (simp; omega)) ?_; conv => whnf) | (refine Cond.tt rfl ?_; conv => whnf) | (refine Cond.ff rfl ?_; conv => whnf) | (refine Pick.tt rfl ?_; conv => whnf) | (refine Pick.ff rfl ?_; conv => whnf) | (refine Called.mk _ _ (Add_ret a b) ?_; conv => whnf) | (refine Called.mk _ _ (Add_ret b a) ?_; conv => whnf) | (refine Called.mk _ _ (MulN a b) ?_; conv => whnf) | (refine Called.mk _ _ (MulN b a) ?_; conv => whnf) | (refine Called.mk _ _ (live1) ?_; conv => whnf) | (refine Called.mk _ _ (MulN (mkN (a.v + b.v)) c) ?_; conv => whnf) | (refine Called.mk _ _ (MulN a c) ?_; conv => whnf) | (refine Called.mk _ _ (MulN b c) ?_; conv => whnf) | (refine Called.mk _ _ (Add_ret (mkN (a.v * c.v)) (mkN (b.v * c.v))) ?_; conv => whnf) | (refine Pick.mk (fun h => ?_) (fun h => ?_) <;> conv => whnf) | (refine Cond.mk (fun h => ?_) (fun h => ?_) <;> conv => whnf))
  all_goals
    refine End.mk (bool_eq ?_) rfl
    simp only [eqN_limbs, Int.add_comm b.v a.v, Int.mul_comm b.v a.v] at *
    first
      | exact decide_eq_true e3
      | simp_all
end Go.Proofs.Ytenlkhlkohnmkaa
