/- FormulaFolds, FormulaSame, as contracts, live being so. -/
import Derived.Test.YtlbocjcponegcaaGreatAmHt
import Derived.Test.YtlbocjcponegcaaGreatAmHm
import Derived.Test.YtlbocjcponegcaaGreatAmHi
import Derived.Test.YtlbocjcponegcaaGreatAmHr
set_option linter.unusedVariables false
set_option linter.unusedSimpArgs false
set_option maxRecDepth 100000
namespace Go.Proofs.YtlbocjcponegcaaGreat
open Go.AM
set_option maxHeartbeats 4000000 in
theorem ffolds_of (hlive : Ret Tryz.prog 11 [] [] (.bool true) []) (x : Xp) (hx : x.Wf) (hL : x.Lens) (tabs : List Tb) (ht : tabs.length ≤ maxLen) : Ret Tryz.prog 6 [eE x, eL 2 cTb tabs] [] (.bool true) [] := by
  have hm : maxLen = 9223372036854775807 := by decide
  have hF := ffits_ret x hx
  have h1 := ffold_ret tabs (by omega) x hx hL
  have h2 := rfold_ret tabs (by omega) x hx hL
  have h3 := same_ret (foldE tabs x) (fold_keeps tabs x hx hL).2
  generalize foldE tabs x = y at *
  by_cases h : sizeE 60 x ≤ 2000
  · rw [decT h] at hF
    refine ret_of_body atCalls tok mixed Tryz.func6 (by kernel_rfl) rfl (k := 20) (rs := [.tmp 4]) (by kernel_rfl) (by kernel_rfl) ?_
    (conv => whnf) <;> repeat' (first | ((first | refine wN ?_ | refine wA ?_ | refine wB ?_ | refine wC ?_ | refine wD ?_ | refine Called.mk _ _ (hF) ?_ | refine Called.mk _ _ (hlive) ?_ | refine Called.mk _ _ (h1) ?_ | refine Called.mk _ _ (h2) ?_ | refine Called.mk _ _ (h3) ?_ | refine vA ?_ | refine vB ?_ | refine vC ?_ | refine vD ?_ | refine uA ?_ | refine uB ?_ | refine uC ?_ | refine uD ?_); conv => whnf) | ((first | apply Pick.dec | apply Pick.beq | apply Cond.dec | apply Cond.beq | apply Cond.nd | apply Pick.nd | apply Pick.mk | apply Cond.mk) <;> intro h <;> conv => whnf))
    exact End.mk rfl rfl
  · rw [decF h] at hF
    refine ret_of_body atCalls tok mixed Tryz.func6 (by kernel_rfl) rfl (k := 20) (rs := [.tmp 4]) (by kernel_rfl) (by kernel_rfl) ?_
    (conv => whnf) <;> repeat' (first | ((first | refine wN ?_ | refine wA ?_ | refine wB ?_ | refine wC ?_ | refine wD ?_ | refine Called.mk _ _ (hF) ?_ | refine Called.mk _ _ (hlive) ?_ | refine vA ?_ | refine vB ?_ | refine vC ?_ | refine vD ?_ | refine uA ?_ | refine uB ?_ | refine uC ?_ | refine uD ?_); conv => whnf) | ((first | apply Pick.dec | apply Pick.beq | apply Cond.dec | apply Cond.beq | apply Cond.nd | apply Pick.nd | apply Pick.mk | apply Cond.mk) <;> intro h <;> conv => whnf))
    exact End.mk rfl rfl
set_option maxHeartbeats 8000000 in
theorem fsame_of (hlive : Ret Tryz.prog 11 [] [] (.bool true) []) (x : Xp) (hx : x.Wf) (hc : cntX x ≤ 1048576) (r : Rd) (hr : r.wf) : Ret Tryz.prog 7 [eE x, eRd r] [] (.bool true) [] := by
  have hm : maxLen = 9223372036854775807 := by decide
  have hL := lens_of_cnt x hc
  have hF := ffits_ret x hx
  have hV := fenv_ret r (by have := hr.names; omega) (by have := hr.cols; omega)
  have ok := Rd.envOk hr
  have htabs : r.env.tabs.length ≤ 9223372036854775807 := ok.tabs
  have f1 := ffold_ret r.env.tabs htabs x hx hL
  have kp := fold_keeps r.env.tabs x hx hL
  have f2 := ffold_ret r.env.tabs htabs (foldE r.env.tabs x) kp.1 kp.2
  rw [foldE_idem] at f2
  have f3 := same_ret (foldE r.env.tabs x) kp.2
  have h1 := feval_ret _ _ r.env ok (foldE r.env.tabs x)
  have h2 := feval_ret _ _ r.env ok x
  rw [evalE_fold] at h1
  have hF2 := ffits_ret (foldE r.env.tabs x) kp.1
  by_cases h : sizeE 60 x ≤ 2000
  · rw [decT h] at hF
    rw [decT (fold_fits r.env.tabs x hc h)] at hF2
    clear kp ok htabs
    generalize evalE r.env x = w at *
    have hww : decide (w = w) = true := decide_eq_true rfl
    generalize foldE r.env.tabs x = y at *
    generalize r.env = e at *
    generalize nilB r.names = b1 at *
    generalize nilB r.cols = b2 at *
    cases b1 <;> cases b2
    · refine ret_of_body atCalls tok mixed Tryz.func7 (by kernel_rfl) rfl (k := 40) (rs := [.tmp 4]) (by kernel_rfl) (by kernel_rfl) ?_
      (conv => whnf) <;> repeat' (first | (rw [eqV]; conv => whnf) | (refine CalledH.mk [2, 3] _ _ rfl (Nat.le_refl _) h1 ?_; conv => whnf) | (refine CalledH.mk [2, 3] _ _ rfl (Nat.le_refl _) h2 ?_; conv => whnf) | ((first | refine wN ?_ | refine wA ?_ | refine wB ?_ | refine wC ?_ | refine wD ?_ | refine Called.mk _ _ (hF) ?_ | refine Called.mk _ _ (hlive) ?_ | refine Called.mk _ _ (hV) ?_ | refine Called.mk _ _ (f1) ?_ | refine Called.mk _ _ (hF2) ?_ | refine Called.mk _ _ (f2) ?_ | refine Called.mk _ _ (f3) ?_ | refine vA ?_ | refine vB ?_ | refine vC ?_ | refine vD ?_ | refine uA ?_ | refine uB ?_ | refine uC ?_ | refine uD ?_); conv => whnf) | ((first | apply Pick.dec | apply Pick.beq | apply Cond.dec | apply Cond.beq | apply Cond.nd | apply Pick.nd | apply Pick.mk | apply Cond.mk) <;> intro h <;> conv => whnf))
      exact End.mk rfl rfl
    · refine ret_of_body atCalls tok mixed Tryz.func7 (by kernel_rfl) rfl (k := 40) (rs := [.tmp 4]) (by kernel_rfl) (by kernel_rfl) ?_
      (conv => whnf) <;> repeat' (first | (rw [eqV]; conv => whnf) | (refine CalledH.mk [2] _ _ rfl (Nat.le_refl _) h1 ?_; conv => whnf) | (refine CalledH.mk [2] _ _ rfl (Nat.le_refl _) h2 ?_; conv => whnf) | ((first | refine wN ?_ | refine wA ?_ | refine wB ?_ | refine wC ?_ | refine wD ?_ | refine Called.mk _ _ (hF) ?_ | refine Called.mk _ _ (hlive) ?_ | refine Called.mk _ _ (hV) ?_ | refine Called.mk _ _ (f1) ?_ | refine Called.mk _ _ (hF2) ?_ | refine Called.mk _ _ (f2) ?_ | refine Called.mk _ _ (f3) ?_ | refine vA ?_ | refine vB ?_ | refine vC ?_ | refine vD ?_ | refine uA ?_ | refine uB ?_ | refine uC ?_ | refine uD ?_); conv => whnf) | ((first | apply Pick.dec | apply Pick.beq | apply Cond.dec | apply Cond.beq | apply Cond.nd | apply Pick.nd | apply Pick.mk | apply Cond.mk) <;> intro h <;> conv => whnf))
      exact End.mk rfl rfl
    · refine ret_of_body atCalls tok mixed Tryz.func7 (by kernel_rfl) rfl (k := 40) (rs := [.tmp 4]) (by kernel_rfl) (by kernel_rfl) ?_
      (conv => whnf) <;> repeat' (first | (rw [eqV]; conv => whnf) | (refine CalledH.mk [2] _ _ rfl (Nat.le_refl _) h1 ?_; conv => whnf) | (refine CalledH.mk [2] _ _ rfl (Nat.le_refl _) h2 ?_; conv => whnf) | ((first | refine wN ?_ | refine wA ?_ | refine wB ?_ | refine wC ?_ | refine wD ?_ | refine Called.mk _ _ (hF) ?_ | refine Called.mk _ _ (hlive) ?_ | refine Called.mk _ _ (hV) ?_ | refine Called.mk _ _ (f1) ?_ | refine Called.mk _ _ (hF2) ?_ | refine Called.mk _ _ (f2) ?_ | refine Called.mk _ _ (f3) ?_ | refine vA ?_ | refine vB ?_ | refine vC ?_ | refine vD ?_ | refine uA ?_ | refine uB ?_ | refine uC ?_ | refine uD ?_); conv => whnf) | ((first | apply Pick.dec | apply Pick.beq | apply Cond.dec | apply Cond.beq | apply Cond.nd | apply Pick.nd | apply Pick.mk | apply Cond.mk) <;> intro h <;> conv => whnf))
      exact End.mk rfl rfl
    · refine ret_of_body atCalls tok mixed Tryz.func7 (by kernel_rfl) rfl (k := 40) (rs := [.tmp 4]) (by kernel_rfl) (by kernel_rfl) ?_
      (conv => whnf) <;> repeat' (first | (rw [eqV]; conv => whnf) | ((first | refine wN ?_ | refine wA ?_ | refine wB ?_ | refine wC ?_ | refine wD ?_ | refine Called.mk _ _ (hF) ?_ | refine Called.mk _ _ (hlive) ?_ | refine Called.mk _ _ (hV) ?_ | refine Called.mk _ _ (f1) ?_ | refine Called.mk _ _ (hF2) ?_ | refine Called.mk _ _ (f2) ?_ | refine Called.mk _ _ (f3) ?_ | refine Called.mk _ _ (h1) ?_ | refine Called.mk _ _ (h2) ?_ | refine vA ?_ | refine vB ?_ | refine vC ?_ | refine vD ?_ | refine uA ?_ | refine uB ?_ | refine uC ?_ | refine uD ?_); conv => whnf) | ((first | apply Pick.dec | apply Pick.beq | apply Cond.dec | apply Cond.beq | apply Cond.nd | apply Pick.nd | apply Pick.mk | apply Cond.mk) <;> intro h <;> conv => whnf))
      exact End.mk rfl rfl
  · rw [decF h] at hF
    refine ret_of_body atCalls tok mixed Tryz.func7 (by kernel_rfl) rfl (k := 40) (rs := [.tmp 4]) (by kernel_rfl) (by kernel_rfl) ?_
    (conv => whnf) <;> repeat' (first | ((first | refine wN ?_ | refine wA ?_ | refine wB ?_ | refine wC ?_ | refine wD ?_ | refine Called.mk _ _ (hF) ?_ | refine Called.mk _ _ (hlive) ?_ | refine vA ?_ | refine vB ?_ | refine vC ?_ | refine vD ?_ | refine uA ?_ | refine uB ?_ | refine uC ?_ | refine uD ?_); conv => whnf) | ((first | apply Pick.dec | apply Pick.beq | apply Cond.dec | apply Cond.beq | apply Cond.nd | apply Pick.nd | apply Pick.mk | apply Cond.mk) <;> intro h <;> conv => whnf))
    exact End.mk rfl rfl
end Go.Proofs.YtlbocjcponegcaaGreat

