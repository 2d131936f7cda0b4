/- limb and exciseref01: products, differences, orders. -/
import Derived.Test.YtenlkhlkohnmkaaAmA4
set_option linter.unusedVariables false
set_option linter.unusedSimpArgs false
set_option maxRecDepth 100000
namespace Go.Proofs.Ytenlkhlkohnmkaa
open Go.AM
theorem natI_mk (x : Int) : natI (x % B4) = eN (mkN x) := rfl
theorem mul_W (a b : N) : W (a.v * b.v / B4) := by
  have ha := a.h; have hb := b.h
  have h0 : 0 ≤ a.v * b.v := Int.mul_nonneg ha.1 hb.1
  have h1 : a.v * b.v < B4 * B4 := by
    have := mul_lt (m := B4 - 1) (n := B4 - 1) ha.1 (by have := ha.2; omega) hb.1 (by have := hb.2; omega)
    have h2 : (B4 - 1) * (B4 - 1) < B4 * B4 := by decide
    omega
  exact ⟨Int.ediv_nonneg h0 (by decide), Int.ediv_lt_of_lt_mul (by decide) h1⟩
theorem natI_hi (a b : N) : natI (a.v * b.v / B4) = eN (mkN (a.v * b.v / B4)) := by rw [eN_natI, mkN_v (mul_W a b)]
theorem MulN (a b : N) : Ret Try.prog 15 [eN a, eN b] [] (.tup [eN (mkN (a.v * b.v / B4)), eN (mkN (a.v * b.v))]) [] := by
  have h := Mul_ret a.v b.v a.h b.h
  rwa [natI_mk, natI_hi] at h
theorem rMulN (a b : N) : Ret Try.prog 16 [eN a, eN b] [] (.tup [eN (mkN (a.v * b.v / B4)), eN (mkN (a.v * b.v))]) [] := by
  have h := rMul_ret a.v b.v a.h b.h
  rwa [natI_mk, natI_hi] at h
set_option maxRecDepth 100000 in
theorem Sub_ret (a b : N) : Ret Try.prog 20 [eN a, eN b] [] (.tup [eN (mkN (a.v - b.v)), .bool (decide (a.v < b.v))]) [] := by
  have ea := limbs_v a; have eb := limbs_v b
  have a0 := l0_U a; have a1 := l1_U a; have a2 := l2_U a; have a3 := l3_U a
  have b0 := l0_U b; have b1 := l1_U b; have b2 := l2_U b; have b3 := l3_U b
  refine ret_of_body atNone tok mixed Try.func20 (by kernel_rfl) rfl (k := 30) (rs := [.cell 4 24, .tmp 5]) (by kernel_rfl) (by kernel_rfl) ?_
  (conv => whnf) <;> repeat' (first | (intro I hw hs; apply hs; conv => whnf) | (apply hs; conv => whnf) | (refine Need.mk (by first | decide | omega | (simp; done) | (simp; omega)) ?_; conv => whnf) | (refine Cond.tt rfl ?_; conv => whnf) | (refine Cond.ff rfl ?_; conv => whnf) | (refine Pick.tt rfl ?_; conv => whnf) | (refine Pick.ff rfl ?_; conv => whnf) | (refine Called.mk _ _ (plus_ret _ _ _ (by assumption) (by rw [not64 (by assumption)]; unfold U at *; omega) (by first | decide | (simp only [not64 (l0_U b), not64 (l1_U b), not64 (l2_U b), not64 (l3_U b)]; unfold U at *; omega))) ?_; conv => whnf) | (refine Pick.mk (fun h => ?_) (fun h => ?_) <;> conv => whnf) | (refine Cond.mk (fun h => ?_) (fun h => ?_) <;> conv => whnf))
  clear hs hw
  simp only [not64 (l0_U b), not64 (l1_U b), not64 (l2_U b), not64 (l3_U b)]
  unfold U at *
  refine End.mk (tup_eq (cons_eq (eN_is (by unfold U; omega) (by unfold U; omega) (by unfold U; omega) (by unfold U; omega) ?_) (cons_eq (bool_eq ?_) rfl))) rfl
  · rw [ea, eb]; unfold val4 B4; omega
  · rw [Bool.eq_iff_iff, beq_iff_eq, decide_eq_true_eq, ea, eb]; unfold val4; omega
theorem not_ret (a : N) : Ret Try.prog 54 [eN a] [] (eN (mkN (B4 - 1 - a.v))) [] := by
  have ea := limbs_v a
  have a0 := l0_U a; have a1 := l1_U a; have a2 := l2_U a; have a3 := l3_U a
  refine ret_of_body atNone tok mixed Try.func54 (by kernel_rfl) rfl (k := 16) (rs := [.cell 2 24]) (by kernel_rfl) (by kernel_rfl) ?_
  (conv => whnf) <;> repeat' (first | (refine Need.mk (by first | decide | omega | (simp; done) | (simp; omega)) ?_; conv => whnf) | (refine Cond.tt rfl ?_; conv => whnf) | (refine Cond.ff rfl ?_; conv => whnf) | (refine Pick.tt rfl ?_; conv => whnf) | (refine Pick.ff rfl ?_; conv => whnf) | (refine Pick.mk (fun h => ?_) (fun h => ?_) <;> conv => whnf) | (refine Cond.mk (fun h => ?_) (fun h => ?_) <;> conv => whnf))
  simp only [not64 (l0_U a), not64 (l1_U a), not64 (l2_U a), not64 (l3_U a)]
  unfold U at *
  refine End.mk (eN_is (by unfold U; omega) (by unfold U; omega) (by unfold U; omega) (by unfold U; omega) ?_) rfl
  rw [ea]; unfold val4 B4; omega
def cmpI (a b : Int) : Int := if a < b then -1 else if b < a then 1 else 0
set_option maxRecDepth 100000 in
theorem Cmp_ret (a b : N) : Ret Try.prog 22 [eN a, eN b] [] (.int .i64 (cmpI a.v b.v)) [] := by
  have ea := limbs_v a; have eb := limbs_v b
  have a0 := l0_U a; have a1 := l1_U a; have a2 := l2_U a; have a3 := l3_U a
  have b0 := l0_U b; have b1 := l1_U b; have b2 := l2_U b; have b3 := l3_U b
  refine ret_of_body atNone tok mixed Try.func22 (by kernel_rfl) rfl (k := 24) (rs := [.tmp 4]) (by kernel_rfl) (by kernel_rfl) ?_
  (conv => whnf) <;> repeat' (first | (intro I hw hs; apply hs; conv => whnf) | (apply hs; conv => whnf) | (refine Need.mk (by first | decide | omega | (simp; done) | (simp; omega)) ?_; conv => whnf) | (refine Cond.tt rfl ?_; conv => whnf) | (refine Cond.ff rfl ?_; conv => whnf) | (refine Pick.tt rfl ?_; conv => whnf) | (refine Pick.ff rfl ?_; conv => whnf) | (refine Pick.mk (fun h => ?_) (fun h => ?_) <;> conv => whnf) | (refine Cond.mk (fun h => ?_) (fun h => ?_) <;> conv => whnf))
  all_goals
    clear hs hw
    refine End.mk (int_eq ?_) rfl
    simp only [bne_iff_ne, bne_eq_false_iff_eq, decide_eq_true_eq, decide_eq_false_iff_not] at *
    rw [ea, eb]
    unfold U at *; unfold cmpI val4
    first
      | (rw [if_pos (by omega)]; done)
      | (rw [if_neg (by omega), if_pos (by omega)]; done)
      | (rw [if_neg (by omega), if_neg (by omega)]; done)
set_option maxRecDepth 100000 in
theorem rCmp_ret (a b : N) : Ret Try.prog 23 [eN a, eN b] [] (.int .i64 (cmpI a.v b.v)) [] := by
  have ea := limbs_v a; have eb := limbs_v b
  have a0 := l0_U a; have a1 := l1_U a; have a2 := l2_U a; have a3 := l3_U a
  have b0 := l0_U b; have b1 := l1_U b; have b2 := l2_U b; have b3 := l3_U b
  refine ret_of_body atNone tok mixed Try.func23 (by kernel_rfl) rfl (k := 24) (rs := [.tmp 4]) (by kernel_rfl) (by kernel_rfl) ?_
  (conv => whnf) <;> repeat' (first | (intro I hw hs; apply hs; conv => whnf) | (apply hs; conv => whnf) | (refine Need.mk (by first | decide | omega | (simp; done) | (simp; omega)) ?_; conv => whnf) | (refine Cond.tt rfl ?_; conv => whnf) | (refine Cond.ff rfl ?_; conv => whnf) | (refine Pick.tt rfl ?_; conv => whnf) | (refine Pick.ff rfl ?_; conv => whnf) | (refine Pick.mk (fun h => ?_) (fun h => ?_) <;> conv => whnf) | (refine Cond.mk (fun h => ?_) (fun h => ?_) <;> conv => whnf))
  all_goals
    clear hs hw
    refine End.mk (int_eq ?_) rfl
    simp only [bne_iff_ne, bne_eq_false_iff_eq, decide_eq_true_eq, decide_eq_false_iff_not] at *
    rw [ea, eb]
    unfold U at *; unfold cmpI val4
    first
      | (rw [if_pos (by omega)]; done)
      | (rw [if_neg (by omega), if_pos (by omega)]; done)
      | (rw [if_neg (by omega), if_neg (by omega)]; done)
end Go.Proofs.Ytenlkhlkohnmkaa
