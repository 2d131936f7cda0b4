/- limb and exciseref01: From, Add, Sub. -/
import Derived.Test.YtenlkhlkohnmkaaAmA0
set_option linter.unusedVariables false
set_option linter.unusedSimpArgs false
set_option maxRecDepth 100000
namespace Go.Proofs.Ytenlkhlkohnmkaa
open Go.AM
theorem From_ret (u : Int) (hu : U u) : Ret Try.prog 27 [.int .u64 u] [] (eN (mkN u)) [] := by
  refine ret_of_body atCalls tok mixed Try.func27 (by kernel_rfl) rfl (k := 5) (rs := [.cell 2 24]) (by kernel_rfl) (by kernel_rfl) ?_
  (conv => whnf) <;> repeat' (first | (refine Need.mk (by first | decide | omega | (simp; done) | (simp; omega)) ?_; conv => whnf) | (refine Cond.tt rfl ?_; conv => whnf) | (refine Cond.ff rfl ?_; conv => whnf) | (refine Pick.tt rfl ?_; conv => whnf) | (refine Pick.ff rfl ?_; conv => whnf) | (refine Pick.mk (fun h => ?_) (fun h => ?_) <;> conv => whnf) | (refine Cond.mk (fun h => ?_) (fun h => ?_) <;> conv => whnf))
  refine End.mk (eN_is hu (by decide) (by decide) (by decide) ?_) rfl
  unfold U at hu; unfold val4 B4; omega
theorem rFrom_ret (u : Int) (hu : U u) : Ret Try.prog 55 [.int .u64 u] [] (eN (mkN u)) [] := by
  refine ret_of_body atCalls tok mixed Try.func55 (by kernel_rfl) rfl (k := 5) (rs := [.cell 2 24]) (by kernel_rfl) (by kernel_rfl) ?_
  (conv => whnf) <;> repeat' (first | (refine Need.mk (by first | decide | omega | (simp; done) | (simp; omega)) ?_; conv => whnf) | (refine Cond.tt rfl ?_; conv => whnf) | (refine Cond.ff rfl ?_; conv => whnf) | (refine Pick.tt rfl ?_; conv => whnf) | (refine Pick.ff rfl ?_; conv => whnf) | (refine Pick.mk (fun h => ?_) (fun h => ?_) <;> conv => whnf) | (refine Cond.mk (fun h => ?_) (fun h => ?_) <;> conv => whnf))
  refine End.mk (eN_is hu (by decide) (by decide) (by decide) ?_) rfl
  unfold U at hu; unfold val4 B4; omega
set_option maxRecDepth 100000 in
theorem Add_ret (a b : N) : Ret Try.prog 18 [eN a, eN b] [] (.tup [eN (mkN (a.v + b.v)), .bool (decide (B4 ≤ a.v + b.v))]) [] := by
  have ea := limbs_v a; have eb := limbs_v b
  have a0 := l0_U a; have a1 := l1_U a; have a2 := l2_U a; have a3 := l3_U a
  have b0 := l0_U b; have b1 := l1_U b; have b2 := l2_U b; have b3 := l3_U b
  refine ret_of_body atCalls tok mixed Try.func18 (by kernel_rfl) rfl (k := 29) (rs := [.cell 4 24, .tmp 5]) (by kernel_rfl) (by kernel_rfl) ?_
  (conv => whnf) <;> repeat' (first | (intro I hw hs; apply hs; conv => whnf) | (apply hs; conv => whnf) | (refine Need.mk (by first | decide | omega | (simp; done) | (simp; omega)) ?_; conv => whnf) | (refine Cond.tt rfl ?_; conv => whnf) | (refine Cond.ff rfl ?_; conv => whnf) | (refine Pick.tt rfl ?_; conv => whnf) | (refine Pick.ff rfl ?_; conv => whnf) | (refine Called.mk _ _ (plus_ret _ _ _ (by assumption) (by assumption) (by unfold U at *; omega)) ?_; conv => whnf) | (refine Pick.mk (fun h => ?_) (fun h => ?_) <;> conv => whnf) | (refine Cond.mk (fun h => ?_) (fun h => ?_) <;> conv => whnf))
  clear hs hw
  unfold U at *
  refine End.mk (tup_eq (cons_eq (eN_is (by unfold U; omega) (by unfold U; omega) (by unfold U; omega) (by unfold U; omega) ?_) (cons_eq (bool_eq ?_) rfl))) rfl
  · rw [ea, eb]; unfold val4 B4; omega
  · rw [decide_eq_decide, ea, eb]; unfold val4 B4; omega
end Go.Proofs.Ytenlkhlkohnmkaa
