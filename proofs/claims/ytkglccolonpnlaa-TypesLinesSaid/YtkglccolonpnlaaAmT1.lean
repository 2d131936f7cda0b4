/- types.Type, Const, Fits; exciseref10's. -/
import Derived.Test.YtkglccolonpnlaaAmGW
import Derived.Test.YtkglccolonpnlaaAmTyp
set_option linter.unusedVariables false
set_option linter.unusedSimpArgs false
set_option maxRecDepth 100000
namespace Go.Proofs.Ytkglccolonpnlaa
open Go.AM
theorem tType_ret (k s : Int) : Ret Try.prog 8 [.agg [.int .i64 k, .int .i64 s]] [] (.int .i64 (typeE k s)) [] := by
  refine ret_of_body atNone tok mixed Try.func8 (by kernel_rfl) rfl (k := 21) (rs := [.tmp 2]) (by kernel_rfl) (by kernel_rfl) ?_
  (conv => whnf) <;> repeat' (first | ((first | refine wN ?_ | refine wA ?_ | refine wB ?_ | refine wC ?_ | refine wD ?_ | refine vA ?_ | refine vB ?_ | refine vC ?_ | refine vD ?_ | refine uA ?_ | refine uB ?_ | refine uC ?_ | refine uD ?_); conv => whnf) | ((first | apply Pick.dec | apply Pick.beq | apply Cond.dec | apply Cond.beq | apply Cond.nd | apply Pick.nd | apply Pick.mk | apply Cond.mk) <;> intro h <;> conv => whnf))
  all_goals first
    | exact End.mk (int_eq (typeE_0 (by omega)).symm) rfl
    | exact End.mk (int_eq (typeE_x (by omega)).symm) rfl
theorem tConst_ret (v : Vl) : Ret Try.prog 10 [eV v] [] (.int .i64 (constE v)) [] := by
  have hc := Check_ret v.num
  by_cases k1 : v.kind = 1
  · by_cases hd : v.num.ok
    · rw [check_ok hd] at hc
      refine ret_of_body atNone tok mixed Try.func10 (by kernel_rfl) rfl (k := 42) (rs := [.tmp 2]) (by kernel_rfl) (by kernel_rfl) ?_
      (conv => whnf) <;> repeat' (first | ((first | refine wN ?_ | refine wA ?_ | refine wB ?_ | refine wC ?_ | refine wD ?_ | refine Called.mk _ _ (hc) ?_ | refine vA ?_ | refine vB ?_ | refine vC ?_ | refine vD ?_ | refine uA ?_ | refine uB ?_ | refine uC ?_ | refine uD ?_); conv => whnf) | ((first | apply Pick.dec | apply Pick.beq | apply Cond.dec | apply Cond.beq | apply Cond.nd | apply Pick.nd | apply Pick.mk | apply Cond.mk) <;> intro h <;> conv => whnf))
      · exact End.mk (int_eq (constE_1f k1 hd fun e => eqCV_f (b := numV v.num) (nt h) e).symm) rfl
      · exact End.mk (int_eq (constE_1t k1 hd (eqCV_t (b := numV v.num) (nf h))).symm) rfl
    · rw [check_bad hd] at hc
      refine ret_of_body atNone tok mixed Try.func10 (by kernel_rfl) rfl (k := 42) (rs := [.tmp 2]) (by kernel_rfl) (by kernel_rfl) ?_
      (conv => whnf) <;> repeat' (first | ((first | refine wN ?_ | refine wA ?_ | refine wB ?_ | refine wC ?_ | refine wD ?_ | refine Called.mk _ _ (hc) ?_ | refine vA ?_ | refine vB ?_ | refine vC ?_ | refine vD ?_ | refine uA ?_ | refine uB ?_ | refine uC ?_ | refine uD ?_); conv => whnf) | ((first | apply Pick.dec | apply Pick.beq | apply Cond.dec | apply Cond.beq | apply Cond.nd | apply Pick.nd | apply Pick.mk | apply Cond.mk) <;> intro h <;> conv => whnf))
      exact End.mk (int_eq (constE_1 k1 hd).symm) rfl
  by_cases k2 : v.kind = 2
  · refine ret_of_body atNone tok mixed Try.func10 (by kernel_rfl) rfl (k := 42) (rs := [.tmp 2]) (by kernel_rfl) (by kernel_rfl) ?_
    (conv => whnf) <;> repeat' (first | ((first | refine wN ?_ | refine wA ?_ | refine wB ?_ | refine wC ?_ | refine wD ?_ | refine vA ?_ | refine vB ?_ | refine vC ?_ | refine vD ?_ | refine uA ?_ | refine uB ?_ | refine uC ?_ | refine uD ?_); conv => whnf) | ((first | apply Pick.dec | apply Pick.beq | apply Cond.dec | apply Cond.beq | apply Cond.nd | apply Pick.nd | apply Pick.mk | apply Cond.mk) <;> intro h <;> conv => whnf))
    · exact End.mk (int_eq (constE_2f k2 fun e => eqCV_f (b := flagV v.flag) (nt h) e).symm) rfl
    · exact End.mk (int_eq (constE_2t k2 (eqCV_t (b := flagV v.flag) (nf h))).symm) rfl
  by_cases k3 : v.kind = 3
  · refine ret_of_body atNone tok mixed Try.func10 (by kernel_rfl) rfl (k := 42) (rs := [.tmp 2]) (by kernel_rfl) (by kernel_rfl) ?_
    (conv => whnf) <;> repeat' (first | ((first | refine wN ?_ | refine wA ?_ | refine wB ?_ | refine wC ?_ | refine wD ?_ | refine vA ?_ | refine vB ?_ | refine vC ?_ | refine vD ?_ | refine uA ?_ | refine uB ?_ | refine uC ?_ | refine uD ?_); conv => whnf) | ((first | apply Pick.dec | apply Pick.beq | apply Cond.dec | apply Cond.beq | apply Cond.nd | apply Pick.nd | apply Pick.mk | apply Cond.mk) <;> intro h <;> conv => whnf))
    · rename_i h1; exact End.mk (int_eq (constE_3f k3 fun e => by have := e.2; omega).symm) rfl
    · rename_i h1; exact End.mk (int_eq (constE_3t k3 (eqCV_t (b := textV v.text) h1) (by omega)).symm) rfl
    · exact End.mk (int_eq (constE_3f k3 fun e => eqCV_f (b := textV v.text) h e.1).symm) rfl
  · refine ret_of_body atNone tok mixed Try.func10 (by kernel_rfl) rfl (k := 42) (rs := [.tmp 2]) (by kernel_rfl) (by kernel_rfl) ?_
    (conv => whnf) <;> repeat' (first | ((first | refine wN ?_ | refine wA ?_ | refine wB ?_ | refine wC ?_ | refine wD ?_ | refine vA ?_ | refine vB ?_ | refine vC ?_ | refine vD ?_ | refine uA ?_ | refine uB ?_ | refine uC ?_ | refine uD ?_); conv => whnf) | ((first | apply Pick.dec | apply Pick.beq | apply Cond.dec | apply Cond.beq | apply Cond.nd | apply Pick.nd | apply Pick.mk | apply Cond.mk) <;> intro h <;> conv => whnf))
    exact End.mk (int_eq (constE_x k1 k2 k3).symm) rfl
end Go.Proofs.Ytkglccolonpnlaa

