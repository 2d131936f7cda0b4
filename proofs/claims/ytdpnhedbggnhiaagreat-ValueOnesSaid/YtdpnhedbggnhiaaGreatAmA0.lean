/- The table of types; limb.plus, limb.half. -/
import Derived.Test.YtdpnhedbggnhiaaGreatAmHg
import Derived.Test.YtdpnhedbggnhiaaGreatRows
set_option linter.unusedVariables false
set_option linter.unusedSimpArgs false
set_option maxRecDepth 100000
namespace Go.Proofs.YtdpnhedbggnhiaaGreat
open Go.AM
def tbl : List (TypeId × TD) := [(3, (.int .i64)), (24, (.arr 4 (.int .u64))), (28, (.struct [(.int .i64), (.struct [.bool, (.arr 4 (.int .u64)), (.int .i64)]), .bool, .str, (.int .i64)])), (22, (.int .u64)), (26, (.struct [.bool, (.arr 4 (.int .u64)), (.int .i64)])), (1, .func), (4, .bool), (64, (.struct [(.arr 4 (.int .u64)), (.arr 4 (.int .u64))])), (9, .str), (30, (.int .i64)), (2, (.int .i64)), (5, (.int .u8)), (56, (.int .u64)), (60, (.struct [(.arr 4 (.int .u64)), (.arr 4 (.int .u64))])), (68, (.slice 5 1 1)), (70, (.struct [(.ptr 70), (.slice 5 1 1)])), (67, (.ptr 70)), (109, (.int .u32)), (120, (.arr 16 (.int .u64))), (117, (.arr 8 (.int .u64))), (116, (.slice 26 6 48)), (77, (.arr 80 (.int .u8))), (21, (.int .i32))]
def tab : TypeId → TD := tableOf tbl
theorem tok : TOk Tryz.prog tab := tableB_ok (l := tbl) (by kernel_rfl)
theorem mixed : Tryz.prog.follows .mixedOrders = true := by kernel_rfl

theorem plus_ret (a b c : Int) (ha : U a) (hb : U b) (hc : U c) :
    Ret Tryz.prog 103 [.int .u64 a, .int .u64 b, .int .u64 c] [] (.tup [.int .u64 ((a + b + c) % 18446744073709551616), .int .u64 ((a + b + c) / 18446744073709551616)]) [] := by
  refine ret_of_body atCalls tok mixed Tryz.func103 (by kernel_rfl) rfl (k := 27) (rs := [.tmp 6, .tmp 7]) (by kernel_rfl) (by kernel_rfl) ?_
  (conv => whnf) <;> repeat' (first | ((first | refine wN ?_ | refine wA ?_ | refine wB ?_ | refine wC ?_ | refine wD ?_); conv => whnf) | ((first | apply Pick.mk | apply Cond.mk) <;> intro h <;> conv => whnf))
  all_goals
    refine End.mk (tup_eq (cons_eq (int_eq ?_) (cons_eq (int_eq ?_) rfl))) rfl
    all_goals
      simp only [decide_eq_false_iff_not, decide_eq_true_eq, w64, U] at *
      omega
theorem half_ret (a b : Int) (ha : U a) (hb : U b) :
    Ret Tryz.prog 102 [.int .u64 a, .int .u64 b] [] (.tup [.int .u64 (a * b / 18446744073709551616), .int .u64 (a * b % 18446744073709551616)]) [] := by
  refine ret_of_body atCalls tok mixed Tryz.func102 (by kernel_rfl) rfl (k := 52) (rs := [.tmp 4, .tmp 5]) (by kernel_rfl) (by kernel_rfl) ?_
  (conv => whnf) <;> repeat' (first | ((first | refine wN ?_ | refine wA ?_ | refine wB ?_ | refine wC ?_ | refine wD ?_); conv => whnf) | ((first | apply Pick.mk | apply Cond.mk) <;> intro h <;> conv => whnf))
  refine End.mk (tup_eq (cons_eq (int_eq ?_) (cons_eq (int_eq ?_) rfl))) rfl
  all_goals
    obtain ⟨P, Q, R, S, e1, e2, e3, e4, e5, h1, h2, h3, h4⟩ := halves ha hb
    simp only [sh32, and32, or32, e1, e2, e3, e4, e5]
    simp only [w64]
    clear e1 e2 e3 e4 e5
    omega
end Go.Proofs.YtdpnhedbggnhiaaGreat

