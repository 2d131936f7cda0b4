/- exciseref01.Add, Sub. -/
import Derived.Test.YtenlkhlkohnmkaaAmA5
set_option linter.unusedVariables false
set_option linter.unusedSimpArgs false
set_option maxRecDepth 100000
namespace Go.Proofs.Ytenlkhlkohnmkaa
open Go.AM
set_option maxRecDepth 100000 in
set_option maxHeartbeats 8000000 in
theorem rAdd_ret (a b : N) : Ret Try.prog 19 [eN a, eN b] [] (.tup [eN (mkN (a.v + b.v)), .bool (decide (B4 ≤ a.v + b.v))]) [] := by
  have ea := limbs_v a; have eb := limbs_v b
  have a0 := l0_U a; have a1 := l1_U a; have a2 := l2_U a; have a3 := l3_U a
  have b0 := l0_U b; have b1 := l1_U b; have b2 := l2_U b; have b3 := l3_U b
  refine ret_of_body atNone tok mixed Try.func19 (by kernel_rfl) rfl (k := 41) (rs := [.cell 4 24, .tmp 5]) (by kernel_rfl) (by kernel_rfl) ?_
  (conv => whnf) <;> repeat' (first | (intro I hw hs; apply hs; conv => whnf) | (apply hs; conv => whnf) | (refine Need.mk (by first | decide | omega | (simp; done) | (simp; omega)) ?_; conv => whnf) | (refine Cond.tt rfl ?_; conv => whnf) | (refine Cond.ff rfl ?_; conv => whnf) | (refine Pick.tt rfl ?_; conv => whnf) | (refine Pick.ff rfl ?_; conv => whnf) | (refine Pick.mk (fun h => ?_) (fun h => ?_) <;> conv => whnf) | (refine Cond.mk (fun h => ?_) (fun h => ?_) <;> conv => whnf))
  all_goals
    clear hs hw
    simp only [w64, decide_eq_true_eq, decide_eq_false_iff_not] at *
    unfold U at *
    refine End.mk (tup_eq (cons_eq (eN_is (by unfold U; omega) (by unfold U; omega) (by unfold U; omega) (by unfold U; omega) ?_) (cons_eq (bool_eq ?_) rfl))) rfl
    · rw [ea, eb]; unfold val4 B4; omega
    · rw [Bool.eq_iff_iff, beq_iff_eq, decide_eq_true_eq, ea, eb]; unfold val4 B4; omega
end Go.Proofs.Ytenlkhlkohnmkaa
