/- decimal: Check, times, compare, made, OfInt, Sign; exciseref02: Check. -/
import Derived.Test.YtdpnhedbggnhiaaGreatAmGC
import Derived.Test.YtdpnhedbggnhiaaGreatAmGU
set_option linter.unusedVariables false
set_option linter.unusedSimpArgs false
set_option maxRecDepth 100000
namespace Go.Proofs.YtdpnhedbggnhiaaGreat
open Go.AM
theorem Check_ret (d : D) : Ret Tryz.prog 20 [eD d] [] (.int .i64 (check d)) [] := by
  refine ret_of_body atNone tok mixed Tryz.func20 (by kernel_rfl) rfl (k := 21) (rs := [.tmp 2]) (by kernel_rfl) (by kernel_rfl) ?_
  (conv => whnf) <;> repeat' (first | (rw [eqN_zero]; conv => whnf) | ((first | refine wN ?_ | refine wA ?_ | refine wB ?_ | refine wC ?_ | refine wD ?_ | refine vA ?_ | refine vB ?_ | refine vC ?_ | refine vD ?_); conv => whnf) | ((first | apply Pick.dec | apply Pick.beq | apply Cond.dec | apply Cond.beq | apply Cond.nd | apply Pick.nd | apply Pick.mk | apply Cond.mk) <;> intro h <;> conv => whnf))
  all_goals
    refine End.mk (int_eq ?_) rfl
    first
      | (rw [check_ok ⟨by omega, by omega, fun hc => by simp_all⟩]; done)
      | (rw [check_bad (fun hc => by obtain ⟨h1, h2, h3⟩ := hc; first | omega | simp_all)]; done)
theorem rCheck_ret (d : D) : Ret Tryz.prog 21 [eD d] [] (.int .i64 (check d)) [] := by
  refine ret_of_body atNone tok mixed Tryz.func21 (by kernel_rfl) rfl (k := 21) (rs := [.tmp 2]) (by kernel_rfl) (by kernel_rfl) ?_
  (conv => whnf) <;> repeat' (first | (rw [eqN_zero]; conv => whnf) | ((first | refine wN ?_ | refine wA ?_ | refine wB ?_ | refine wC ?_ | refine wD ?_ | refine vA ?_ | refine vB ?_ | refine vC ?_ | refine vD ?_); conv => whnf) | ((first | apply Pick.dec | apply Pick.beq | apply Cond.dec | apply Cond.beq | apply Cond.nd | apply Pick.nd | apply Pick.mk | apply Cond.mk) <;> intro h <;> conv => whnf))
  all_goals
    refine End.mk (int_eq ?_) rfl
    first
      | (rw [check_ok ⟨by omega, by omega, fun hc => by simp_all⟩]; done)
      | (rw [check_bad (fun hc => by obtain ⟨h1, h2, h3⟩ := hc; first | omega | simp_all)]; done)
theorem times_ret (a : N) (p : Int) (h0 : 0 ≤ p) (h1 : p ≤ 77) : Ret Tryz.prog 63 [eN a, .int .i64 p] [] (eW (a.v * tenP p)) [] := by
  have e : (mkN (10 ^ p.toNat)).v = tenP p := mkN_v (ten_W h1)
  have hm := MulN a (mkN (10 ^ p.toNat))
  rw [e] at hm
  refine ret_of_body atNone tok mixed Tryz.func63 (by kernel_rfl) rfl (k := 23) (rs := [.cell 4 64]) (by kernel_rfl) (by kernel_rfl) ?_
  (conv => whnf) <;> repeat' (first | ((first | refine wN ?_ | refine wA ?_ | refine wB ?_ | refine wC ?_ | refine wD ?_ | refine Called.mk _ _ (Ten_ret p h0 h1) ?_ | refine Called.mk _ _ (hm) ?_ | refine vA ?_ | refine vB ?_ | refine vC ?_ | refine vD ?_); conv => whnf) | ((first | apply Pick.dec | apply Pick.beq | apply Cond.dec | apply Cond.beq | apply Cond.nd | apply Pick.nd | apply Pick.mk | apply Cond.mk) <;> intro h <;> conv => whnf))
  exact End.mk rfl rfl
theorem made_ret (neg : Bool) (x : Int) (scale : Int) (hx : WW x) : Ret Tryz.prog 62 [.bool neg, eW x, .int .i64 scale] [] (.tup [eD (made neg x scale).1, .int .i64 (made neg x scale).2]) [] := by
  have h1 := WW_zero_hi hx
  refine ret_of_body atNone tok mixed Tryz.func62 (by kernel_rfl) rfl (k := 24) (rs := [.cell 6 26, .tmp 7]) (by kernel_rfl) (by kernel_rfl) ?_
  (conv => whnf) <;> repeat' (first | (rw [eqN_zero]; conv => whnf) | ((first | refine wN ?_ | refine wA ?_ | refine wB ?_ | refine wC ?_ | refine wD ?_ | refine vA ?_ | refine vB ?_ | refine vC ?_ | refine vD ?_); conv => whnf) | ((first | apply Pick.dec | apply Pick.beq | apply Cond.dec | apply Cond.beq | apply Cond.nd | apply Pick.nd | apply Pick.mk | apply Cond.mk) <;> intro h <;> conv => whnf))
  · have : B4 ≤ x := by have := (not_congr h1).1 h; omega
    unfold made
    rw [if_pos this]
    exact End.mk rfl rfl
  all_goals
    have hlt : ¬ B4 ≤ x := by have := h1.1 (by assumption); omega
    unfold made
    rw [if_neg hlt]
    subst h
    refine End.mk (tup_eq (cons_eq (agg_eq (cons_eq (bool_eq ?_) rfl)) rfl)) rfl
    simp
end Go.Proofs.YtdpnhedbggnhiaaGreat

