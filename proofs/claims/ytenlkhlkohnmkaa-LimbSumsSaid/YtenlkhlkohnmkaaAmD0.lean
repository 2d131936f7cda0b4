/- The laws LimbDivides, LimbRests, as contracts. -/
import Derived.Test.YtenlkhlkohnmkaaAmC2
set_option linter.unusedVariables false
set_option linter.unusedSimpArgs false
set_option maxRecDepth 100000
namespace Go.Proofs.Ytenlkhlkohnmkaa
open Go.AM
theorem limbDivides_ret (x l b : N) : Ret Try.prog 7 [eN x, eN l, eN b] [] (.bool true) [] := by
  rcases (by omega : x.v < b.v ∨ b.v ≤ x.v) with hc | hc
  · refine ret_of_body atNone tok mixed Try.func7 (by kernel_rfl) rfl (k := 45) (rs := [.tmp 6]) (by kernel_rfl) (by kernel_rfl) ?_
    (conv => whnf) <;> repeat' (first | (refine Need.mk (by first | decide | omega | (simp; done) | (simp; omega)) ?_; conv => whnf) | (refine Cond.tt rfl ?_; conv => whnf) | (refine Cond.ff rfl ?_; conv => whnf) | (refine Pick.tt rfl ?_; conv => whnf) | (refine Pick.ff rfl ?_; conv => whnf) | (refine Called.mk _ _ (Div_ok x l b hc) ?_; conv => whnf) | (refine Called.mk _ _ (rDiv_ok x l b hc) ?_; conv => whnf) | (refine Called.mk _ _ (live1) ?_; conv => whnf) | (refine Pick.mk (fun h => ?_) (fun h => ?_) <;> conv => whnf) | (refine Cond.mk (fun h => ?_) (fun h => ?_) <;> conv => whnf))
    all_goals
      refine End.mk (bool_eq ?_) rfl
      simp only [eqN_limbs] at *
      simp_all
  · refine ret_of_body atNone tok mixed Try.func7 (by kernel_rfl) rfl (k := 45) (rs := [.tmp 6]) (by kernel_rfl) (by kernel_rfl) ?_
    (conv => whnf) <;> repeat' (first | (refine Need.mk (by first | decide | omega | (simp; done) | (simp; omega)) ?_; conv => whnf) | (refine Cond.tt rfl ?_; conv => whnf) | (refine Cond.ff rfl ?_; conv => whnf) | (refine Pick.tt rfl ?_; conv => whnf) | (refine Pick.ff rfl ?_; conv => whnf) | (refine Called.mk _ _ (Div_bad x l b hc) ?_; conv => whnf) | (refine Called.mk _ _ (rDiv_bad x l b hc) ?_; conv => whnf) | (refine Called.mk _ _ (live1) ?_; conv => whnf) | (refine Pick.mk (fun h => ?_) (fun h => ?_) <;> conv => whnf) | (refine Cond.mk (fun h => ?_) (fun h => ?_) <;> conv => whnf))
    all_goals
      refine End.mk (bool_eq ?_) rfl
      simp_all
theorem rests {x l b : N} (hc : x.v < b.v) : ∃ q r : N, mkN ((x.v * B4 + l.v) / b.v) = q ∧ mkN ((x.v * B4 + l.v) % b.v) = r ∧ x.v * B4 + l.v = q.v * b.v + r.v ∧ r.v < b.v := by
  have hx := x.h; have hl := l.h; have hb := b.h
  have h0 : 0 ≤ x.v * B4 + l.v := by unfold W at *; have := Int.mul_nonneg hx.1 (show (0 : Int) ≤ B4 by decide); omega
  have h1 : x.v * B4 + l.v < b.v * B4 := by
    have : (x.v + 1) * B4 ≤ b.v * B4 := Int.mul_le_mul_of_nonneg_right (by omega) (by decide)
    rw [Int.add_mul, Int.one_mul] at this
    unfold W at *; omega
  have hp : 0 < b.v := by unfold W at *; omega
  have w1 : W ((x.v * B4 + l.v) / b.v) := ⟨Int.ediv_nonneg h0 (by omega), Int.ediv_lt_of_lt_mul hp (by rw [Int.mul_comm B4 b.v]; exact h1)⟩
  have h2 := Int.emod_nonneg (x.v * B4 + l.v) (by omega : b.v ≠ 0)
  have h3 := Int.emod_lt_of_pos (x.v * B4 + l.v) hp
  have w2 : W ((x.v * B4 + l.v) % b.v) := ⟨h2, by unfold W at *; omega⟩
  refine ⟨_, _, rfl, rfl, ?_, by rw [mkN_v w2]; exact h3⟩
  rw [mkN_v w1, mkN_v w2]
  have := Int.mul_ediv_add_emod (x.v * B4 + l.v) b.v
  rw [Int.mul_comm b.v] at this
  omega
set_option maxRecDepth 100000 in
theorem limbRests_ret (x l b : N) : Ret Try.prog 8 [eN x, eN l, eN b] [] (.bool true) [] := by
  rcases (by omega : x.v < b.v ∨ b.v ≤ x.v) with hc | hc
  · obtain ⟨q, r, e1, e2, e3, e4⟩ := rests (l := l) hc
    have hd := Div_ok x l b hc
    rw [e1, e2] at hd
    have hr := r.h; have hl := l.h; have hx := x.h; have hq := q.h; have hb := b.h
    have hmul := mul_W q b
    have hp0 : 0 ≤ q.v * b.v := Int.mul_nonneg hq.1 hb.1
    have hsum : mkN ((mkN (q.v * b.v)).v + r.v) = l := by
      apply N.eq; simp only [mkN]
      generalize q.v * b.v = p at *
      unfold W B4 at *; omega
    have hno : ¬ B4 ≤ (mkN (q.v * b.v)).v + r.v → mkN (q.v * b.v / B4) = x := fun h => by
      apply N.eq; rw [mkN_v hmul]
      simp only [mkN] at h
      generalize q.v * b.v = p at *
      unfold W B4 at *; omega
    have hyes : B4 ≤ (mkN (q.v * b.v)).v + r.v → mkN ((mkN (q.v * b.v / B4)).v + (mkN 1).v) = x := fun h => by
      have h1v : (mkN 1).v = 1 := by decide
      apply N.eq; rw [mkN_v hmul, h1v]
      simp only [mkN] at h ⊢
      generalize q.v * b.v = p at *
      unfold W B4 at *; omega
    have hcmp : cmpI r.v b.v = -1 := if_pos e4
    refine ret_of_body atNone tok mixed Try.func8 (by kernel_rfl) rfl (k := 62) (rs := [.tmp 6]) (by kernel_rfl) (by kernel_rfl) ?_
    (conv => whnf) <;> repeat' (first | (refine Need.mk (by first | decide | omega | (simp; done) | (simp; omega)) ?_; conv => whnf) | (refine Cond.tt rfl ?_; conv => whnf) | (refine Cond.ff rfl ?_; conv => whnf) | (refine Pick.tt rfl ?_; conv => whnf) | (refine Pick.ff rfl ?_; conv => whnf) | (refine Called.mk _ _ (hd) ?_; conv => whnf) | (refine Called.mk _ _ (live1) ?_; conv => whnf) | (refine Called.mk _ _ (MulN q b) ?_; conv => whnf) | (refine Called.mk _ _ (Add_ret (mkN (q.v * b.v)) r) ?_; conv => whnf) | (refine Called.mk _ _ (From_ret 1 (by decide)) ?_; conv => whnf) | (refine Called.mk _ _ (Add_ret (mkN (q.v * b.v / B4)) (mkN 1)) ?_; conv => whnf) | (refine Called.mk _ _ (Cmp_ret r b) ?_; conv => whnf) | (refine Pick.mk (fun h => ?_) (fun h => ?_) <;> conv => whnf) | (refine Cond.mk (fun h => ?_) (fun h => ?_) <;> conv => whnf))
    all_goals
      refine End.mk (bool_eq ?_) rfl
      simp only [eqN_limbs, hsum, hcmp] at *
      simp_all
  · refine ret_of_body atNone tok mixed Try.func8 (by kernel_rfl) rfl (k := 62) (rs := [.tmp 6]) (by kernel_rfl) (by kernel_rfl) ?_
    (conv => whnf) <;> repeat' (first | (refine Need.mk (by first | decide | omega | (simp; done) | (simp; omega)) ?_; conv => whnf) | (refine Cond.tt rfl ?_; conv => whnf) | (refine Cond.ff rfl ?_; conv => whnf) | (refine Pick.tt rfl ?_; conv => whnf) | (refine Pick.ff rfl ?_; conv => whnf) | (refine Called.mk _ _ (Div_bad x l b hc) ?_; conv => whnf) | (refine Called.mk _ _ (live1) ?_; conv => whnf) | (refine Pick.mk (fun h => ?_) (fun h => ?_) <;> conv => whnf) | (refine Cond.mk (fun h => ?_) (fun h => ?_) <;> conv => whnf))
    all_goals
      refine End.mk (bool_eq ?_) rfl
      simp_all
end Go.Proofs.Ytenlkhlkohnmkaa
