/- FormulaItems, FormulaStays, as contracts, live being so. -/
import Derived.Test.YtlbocjcponegcaaGreatAmHm
import Derived.Test.YtlbocjcponegcaaGreatAmHi
import Derived.Test.YtlbocjcponegcaaGreatAmEx3
set_option linter.unusedVariables false
set_option linter.unusedSimpArgs false
set_option maxRecDepth 100000
namespace Go.Proofs.YtlbocjcponegcaaGreat
open Go.AM
set_option maxHeartbeats 4000000 in
theorem fitems_of (hlive : Ret Tryz.prog 11 [] [] (.bool true) []) (i : It) (hx : i.expr.Wf) (r : Rd) (hr : r.wf) : Ret Tryz.prog 4 [.agg (cIt i), eRd r] [] (.bool true) [] := by
  have hm : maxLen = 9223372036854775807 := by decide
  have hF := ffits_ret i.expr hx
  have hV := fenv_ret r (by have := hr.names; omega) (by have := hr.cols; omega)
  have ok := Rd.envOk hr
  have h1 := fitem_ret _ _ r.env ok i
  have h2 := fritem_ret _ _ r.env ok i
  generalize itemV r.env i = w at *
  generalize r.env = e at *
  generalize nilB r.names = b1 at *
  generalize nilB r.cols = b2 at *
  obtain ⟨nm, k, tk, ts, nd, p, x⟩ := i
  simp only at *
  rw [cIt_mk] at *
  by_cases h : sizeE 60 x ≤ 2000
  · rw [decT h] at hF
    cases b1 <;> cases b2
    · refine ret_of_body atCalls tok mixed Tryz.func4 (by kernel_rfl) rfl (k := 24) (rs := [.tmp 4]) (by kernel_rfl) (by kernel_rfl) ?_
      (conv => whnf) <;> repeat' (first | (refine CalledH.mk [2, 3] _ _ rfl (Nat.le_refl _) h1 ?_; conv => whnf) | (refine CalledH.mk [2, 3] _ _ rfl (Nat.le_refl _) h2 ?_; conv => whnf) | (rw [eqV]; conv => whnf) | ((first | refine wN ?_ | refine wA ?_ | refine wB ?_ | refine wC ?_ | refine wD ?_ | refine Called.mk _ _ (hF) ?_ | refine Called.mk _ _ (hlive) ?_ | refine Called.mk _ _ (hV) ?_ | refine vA ?_ | refine vB ?_ | refine vC ?_ | refine vD ?_ | refine uA ?_ | refine uB ?_ | refine uC ?_ | refine uD ?_); conv => whnf) | ((first | refine Pick.dec (fun h => ?_) (fun h => ?_) | refine Pick.beq (fun h => ?_) (fun h => ?_) | refine Cond.dec (fun h => ?_) (fun h => ?_) | refine Cond.beq (fun h => ?_) (fun h => ?_) | refine Cond.nd (fun h => ?_) (fun h => ?_) | refine Pick.nd (fun h => ?_) (fun h => ?_) | refine Pick.mk (fun h => ?_) (fun h => ?_) | refine Cond.mk (fun h => ?_) (fun h => ?_)) <;> conv => whnf))
      exact End.mk (bool_eq (by simp)) rfl
    · refine ret_of_body atCalls tok mixed Tryz.func4 (by kernel_rfl) rfl (k := 24) (rs := [.tmp 4]) (by kernel_rfl) (by kernel_rfl) ?_
      (conv => whnf) <;> repeat' (first | (refine CalledH.mk [2] _ _ rfl (Nat.le_refl _) h1 ?_; conv => whnf) | (refine CalledH.mk [2] _ _ rfl (Nat.le_refl _) h2 ?_; conv => whnf) | (rw [eqV]; conv => whnf) | ((first | refine wN ?_ | refine wA ?_ | refine wB ?_ | refine wC ?_ | refine wD ?_ | refine Called.mk _ _ (hF) ?_ | refine Called.mk _ _ (hlive) ?_ | refine Called.mk _ _ (hV) ?_ | refine vA ?_ | refine vB ?_ | refine vC ?_ | refine vD ?_ | refine uA ?_ | refine uB ?_ | refine uC ?_ | refine uD ?_); conv => whnf) | ((first | refine Pick.dec (fun h => ?_) (fun h => ?_) | refine Pick.beq (fun h => ?_) (fun h => ?_) | refine Cond.dec (fun h => ?_) (fun h => ?_) | refine Cond.beq (fun h => ?_) (fun h => ?_) | refine Cond.nd (fun h => ?_) (fun h => ?_) | refine Pick.nd (fun h => ?_) (fun h => ?_) | refine Pick.mk (fun h => ?_) (fun h => ?_) | refine Cond.mk (fun h => ?_) (fun h => ?_)) <;> conv => whnf))
      exact End.mk (bool_eq (by simp)) rfl
    · refine ret_of_body atCalls tok mixed Tryz.func4 (by kernel_rfl) rfl (k := 24) (rs := [.tmp 4]) (by kernel_rfl) (by kernel_rfl) ?_
      (conv => whnf) <;> repeat' (first | (refine CalledH.mk [2] _ _ rfl (Nat.le_refl _) h1 ?_; conv => whnf) | (refine CalledH.mk [2] _ _ rfl (Nat.le_refl _) h2 ?_; conv => whnf) | (rw [eqV]; conv => whnf) | ((first | refine wN ?_ | refine wA ?_ | refine wB ?_ | refine wC ?_ | refine wD ?_ | refine Called.mk _ _ (hF) ?_ | refine Called.mk _ _ (hlive) ?_ | refine Called.mk _ _ (hV) ?_ | refine vA ?_ | refine vB ?_ | refine vC ?_ | refine vD ?_ | refine uA ?_ | refine uB ?_ | refine uC ?_ | refine uD ?_); conv => whnf) | ((first | refine Pick.dec (fun h => ?_) (fun h => ?_) | refine Pick.beq (fun h => ?_) (fun h => ?_) | refine Cond.dec (fun h => ?_) (fun h => ?_) | refine Cond.beq (fun h => ?_) (fun h => ?_) | refine Cond.nd (fun h => ?_) (fun h => ?_) | refine Pick.nd (fun h => ?_) (fun h => ?_) | refine Pick.mk (fun h => ?_) (fun h => ?_) | refine Cond.mk (fun h => ?_) (fun h => ?_)) <;> conv => whnf))
      exact End.mk (bool_eq (by simp)) rfl
    · refine ret_of_body atCalls tok mixed Tryz.func4 (by kernel_rfl) rfl (k := 24) (rs := [.tmp 4]) (by kernel_rfl) (by kernel_rfl) ?_
      (conv => whnf) <;> repeat' (first | (rw [eqV]; conv => whnf) | ((first | refine wN ?_ | refine wA ?_ | refine wB ?_ | refine wC ?_ | refine wD ?_ | refine Called.mk _ _ (hF) ?_ | refine Called.mk _ _ (hlive) ?_ | refine Called.mk _ _ (hV) ?_ | refine Called.mk _ _ (h1) ?_ | refine Called.mk _ _ (h2) ?_ | refine vA ?_ | refine vB ?_ | refine vC ?_ | refine vD ?_ | refine uA ?_ | refine uB ?_ | refine uC ?_ | refine uD ?_); conv => whnf) | ((first | refine Pick.dec (fun h => ?_) (fun h => ?_) | refine Pick.beq (fun h => ?_) (fun h => ?_) | refine Cond.dec (fun h => ?_) (fun h => ?_) | refine Cond.beq (fun h => ?_) (fun h => ?_) | refine Cond.nd (fun h => ?_) (fun h => ?_) | refine Pick.nd (fun h => ?_) (fun h => ?_) | refine Pick.mk (fun h => ?_) (fun h => ?_) | refine Cond.mk (fun h => ?_) (fun h => ?_)) <;> conv => whnf))
      exact End.mk (bool_eq (by simp)) rfl
  · rw [decF h] at hF
    refine ret_of_body atCalls tok mixed Tryz.func4 (by kernel_rfl) rfl (k := 24) (rs := [.tmp 4]) (by kernel_rfl) (by kernel_rfl) ?_
    (conv => whnf) <;> repeat' (first | ((first | refine wN ?_ | refine wA ?_ | refine wB ?_ | refine wC ?_ | refine wD ?_ | refine Called.mk _ _ (hF) ?_ | refine Called.mk _ _ (hlive) ?_ | refine vA ?_ | refine vB ?_ | refine vC ?_ | refine vD ?_ | refine uA ?_ | refine uB ?_ | refine uC ?_ | refine uD ?_); conv => whnf) | ((first | refine Pick.dec (fun h => ?_) (fun h => ?_) | refine Pick.beq (fun h => ?_) (fun h => ?_) | refine Cond.dec (fun h => ?_) (fun h => ?_) | refine Cond.beq (fun h => ?_) (fun h => ?_) | refine Cond.nd (fun h => ?_) (fun h => ?_) | refine Pick.nd (fun h => ?_) (fun h => ?_) | refine Pick.mk (fun h => ?_) (fun h => ?_) | refine Cond.mk (fun h => ?_) (fun h => ?_)) <;> conv => whnf))
    exact End.mk rfl rfl
set_option maxHeartbeats 4000000 in
theorem fstays_of (hlive : Ret Tryz.prog 11 [] [] (.bool true) []) (i : It) (hx : i.expr.Wf) (r : Rd) (hr : r.wf) : Ret Tryz.prog 5 [.agg (cIt i), eRd r] [] (.bool true) [] := by
  have hm : maxLen = 9223372036854775807 := by decide
  have hF := ffits_ret i.expr hx
  have hV := fenv_ret r (by have := hr.names; omega) (by have := hr.cols; omega)
  have ok := Rd.envOk hr
  have h1 := fitem_ret _ _ r.env ok i
  have h2 := feval_ret _ _ r.env ok i.expr
  have c1 := rvCheck_ret (itemV r.env i); rw [checkV_0 (itemV_valid _ _)] at c1
  have c2 := rvCheck_ret (evalE r.env i.expr); rw [checkV_0 (evalE_valid _ _)] at c2
  generalize itemV r.env i = w at *
  generalize evalE r.env i.expr = w' at *
  generalize r.env = e at *
  generalize nilB r.names = b1 at *
  generalize nilB r.cols = b2 at *
  obtain ⟨nm, k, tk, ts, nd, p, x⟩ := i
  simp only at *
  rw [cIt_mk] at *
  by_cases h : sizeE 60 x ≤ 2000
  · rw [decT h] at hF
    cases b1 <;> cases b2
    · refine ret_of_body atCalls tok mixed Tryz.func5 (by kernel_rfl) rfl (k := 30) (rs := [.tmp 4]) (by kernel_rfl) (by kernel_rfl) ?_
      (conv => whnf) <;> repeat' (first | (refine CalledH.mk [2, 3] _ _ rfl (Nat.le_refl _) h1 ?_; conv => whnf) | (refine CalledH.mk [2, 3] _ _ rfl (Nat.le_refl _) h2 ?_; conv => whnf) | ((first | refine wN ?_ | refine wA ?_ | refine wB ?_ | refine wC ?_ | refine wD ?_ | refine Called.mk _ _ (hF) ?_ | refine Called.mk _ _ (hlive) ?_ | refine Called.mk _ _ (hV) ?_ | refine Called.mk _ _ (c1) ?_ | refine Called.mk _ _ (c2) ?_ | refine vA ?_ | refine vB ?_ | refine vC ?_ | refine vD ?_ | refine uA ?_ | refine uB ?_ | refine uC ?_ | refine uD ?_); conv => whnf) | ((first | refine Pick.dec (fun h => ?_) (fun h => ?_) | refine Pick.beq (fun h => ?_) (fun h => ?_) | refine Cond.dec (fun h => ?_) (fun h => ?_) | refine Cond.beq (fun h => ?_) (fun h => ?_) | refine Cond.nd (fun h => ?_) (fun h => ?_) | refine Pick.nd (fun h => ?_) (fun h => ?_) | refine Pick.mk (fun h => ?_) (fun h => ?_) | refine Cond.mk (fun h => ?_) (fun h => ?_)) <;> conv => whnf))
      exact End.mk rfl rfl
    · refine ret_of_body atCalls tok mixed Tryz.func5 (by kernel_rfl) rfl (k := 30) (rs := [.tmp 4]) (by kernel_rfl) (by kernel_rfl) ?_
      (conv => whnf) <;> repeat' (first | (refine CalledH.mk [2] _ _ rfl (Nat.le_refl _) h1 ?_; conv => whnf) | (refine CalledH.mk [2] _ _ rfl (Nat.le_refl _) h2 ?_; conv => whnf) | ((first | refine wN ?_ | refine wA ?_ | refine wB ?_ | refine wC ?_ | refine wD ?_ | refine Called.mk _ _ (hF) ?_ | refine Called.mk _ _ (hlive) ?_ | refine Called.mk _ _ (hV) ?_ | refine Called.mk _ _ (c1) ?_ | refine Called.mk _ _ (c2) ?_ | refine vA ?_ | refine vB ?_ | refine vC ?_ | refine vD ?_ | refine uA ?_ | refine uB ?_ | refine uC ?_ | refine uD ?_); conv => whnf) | ((first | refine Pick.dec (fun h => ?_) (fun h => ?_) | refine Pick.beq (fun h => ?_) (fun h => ?_) | refine Cond.dec (fun h => ?_) (fun h => ?_) | refine Cond.beq (fun h => ?_) (fun h => ?_) | refine Cond.nd (fun h => ?_) (fun h => ?_) | refine Pick.nd (fun h => ?_) (fun h => ?_) | refine Pick.mk (fun h => ?_) (fun h => ?_) | refine Cond.mk (fun h => ?_) (fun h => ?_)) <;> conv => whnf))
      exact End.mk rfl rfl
    · refine ret_of_body atCalls tok mixed Tryz.func5 (by kernel_rfl) rfl (k := 30) (rs := [.tmp 4]) (by kernel_rfl) (by kernel_rfl) ?_
      (conv => whnf) <;> repeat' (first | (refine CalledH.mk [2] _ _ rfl (Nat.le_refl _) h1 ?_; conv => whnf) | (refine CalledH.mk [2] _ _ rfl (Nat.le_refl _) h2 ?_; conv => whnf) | ((first | refine wN ?_ | refine wA ?_ | refine wB ?_ | refine wC ?_ | refine wD ?_ | refine Called.mk _ _ (hF) ?_ | refine Called.mk _ _ (hlive) ?_ | refine Called.mk _ _ (hV) ?_ | refine Called.mk _ _ (c1) ?_ | refine Called.mk _ _ (c2) ?_ | refine vA ?_ | refine vB ?_ | refine vC ?_ | refine vD ?_ | refine uA ?_ | refine uB ?_ | refine uC ?_ | refine uD ?_); conv => whnf) | ((first | refine Pick.dec (fun h => ?_) (fun h => ?_) | refine Pick.beq (fun h => ?_) (fun h => ?_) | refine Cond.dec (fun h => ?_) (fun h => ?_) | refine Cond.beq (fun h => ?_) (fun h => ?_) | refine Cond.nd (fun h => ?_) (fun h => ?_) | refine Pick.nd (fun h => ?_) (fun h => ?_) | refine Pick.mk (fun h => ?_) (fun h => ?_) | refine Cond.mk (fun h => ?_) (fun h => ?_)) <;> conv => whnf))
      exact End.mk rfl rfl
    · refine ret_of_body atCalls tok mixed Tryz.func5 (by kernel_rfl) rfl (k := 30) (rs := [.tmp 4]) (by kernel_rfl) (by kernel_rfl) ?_
      (conv => whnf) <;> repeat' (first | ((first | refine wN ?_ | refine wA ?_ | refine wB ?_ | refine wC ?_ | refine wD ?_ | refine Called.mk _ _ (hF) ?_ | refine Called.mk _ _ (hlive) ?_ | refine Called.mk _ _ (hV) ?_ | refine Called.mk _ _ (h1) ?_ | refine Called.mk _ _ (h2) ?_ | refine Called.mk _ _ (c1) ?_ | refine Called.mk _ _ (c2) ?_ | refine vA ?_ | refine vB ?_ | refine vC ?_ | refine vD ?_ | refine uA ?_ | refine uB ?_ | refine uC ?_ | refine uD ?_); conv => whnf) | ((first | refine Pick.dec (fun h => ?_) (fun h => ?_) | refine Pick.beq (fun h => ?_) (fun h => ?_) | refine Cond.dec (fun h => ?_) (fun h => ?_) | refine Cond.beq (fun h => ?_) (fun h => ?_) | refine Cond.nd (fun h => ?_) (fun h => ?_) | refine Pick.nd (fun h => ?_) (fun h => ?_) | refine Pick.mk (fun h => ?_) (fun h => ?_) | refine Cond.mk (fun h => ?_) (fun h => ?_)) <;> conv => whnf))
      exact End.mk rfl rfl
  · rw [decF h] at hF
    refine ret_of_body atCalls tok mixed Tryz.func5 (by kernel_rfl) rfl (k := 30) (rs := [.tmp 4]) (by kernel_rfl) (by kernel_rfl) ?_
    (conv => whnf) <;> repeat' (first | ((first | refine wN ?_ | refine wA ?_ | refine wB ?_ | refine wC ?_ | refine wD ?_ | refine Called.mk _ _ (hF) ?_ | refine Called.mk _ _ (hlive) ?_ | refine vA ?_ | refine vB ?_ | refine vC ?_ | refine vD ?_ | refine uA ?_ | refine uB ?_ | refine uC ?_ | refine uD ?_); conv => whnf) | ((first | refine Pick.dec (fun h => ?_) (fun h => ?_) | refine Pick.beq (fun h => ?_) (fun h => ?_) | refine Cond.dec (fun h => ?_) (fun h => ?_) | refine Cond.beq (fun h => ?_) (fun h => ?_) | refine Cond.nd (fun h => ?_) (fun h => ?_) | refine Pick.nd (fun h => ?_) (fun h => ?_) | refine Pick.mk (fun h => ?_) (fun h => ?_) | refine Cond.mk (fun h => ?_) (fun h => ?_)) <;> conv => whnf))
    exact End.mk rfl rfl
end Go.Proofs.YtlbocjcponegcaaGreat

