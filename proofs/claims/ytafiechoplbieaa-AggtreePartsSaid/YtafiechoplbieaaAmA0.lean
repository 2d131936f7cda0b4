/- The table of types; limb.plus, limb.half. -/
import Derived.Test.YtafiechoplbieaaAmHg
import Derived.Test.YtafiechoplbieaaRows
set_option linter.unusedVariables false
set_option linter.unusedSimpArgs false
set_option maxRecDepth 100000
namespace Go.Proofs.Ytafiechoplbieaa
open Go.AM
def tbl : List (TypeId × TD) := [(3, (.int .i64)), (42, (.struct [(.int .i64), (.int .i64), (.int .i64), (.int .i64), (.int .i64), (.arr 5 (.int .u64)), .bool, (.struct [.bool, (.arr 4 (.int .u64)), (.int .i64)]), (.struct [.bool, (.arr 4 (.int .u64)), (.int .i64)])])), (2, (.int .i64)), (34, (.int .u64)), (1, .func), (4, .bool), (38, (.arr 4 (.int .u64))), (40, (.struct [.bool, (.arr 4 (.int .u64)), (.int .i64)])), (77, (.ptr 95)), (25, (.int .i64)), (31, (.struct [(.int .i64), (.int .i64), (.int .i64), (.slice 54 10 88), (.int .i64), (.int .i64), (.int .i64)])), (95, (.struct [(.int .i64), (.slice 54 10 88), (.int .i64), (.slice 42 23 184), (.ptr 95), (.arr 2 (.ptr 95))])), (54, (.struct [(.int .i64), (.struct [.bool, (.arr 4 (.int .u64)), (.int .i64)]), .bool, .str, (.int .i64)])), (36, (.arr 5 (.int .u64))), (5, (.int .u8)), (80, (.struct [.bool, (.slice 3 1 8), (.ptr 95), (.map 2 77), (.int .i64)])), (56, (.slice 2 1 8)), (29, (.slice 54 10 88)), (93, (.arr 2 (.ptr 95))), (24, (.ptr 80)), (74, (.struct [(.slice 3 1 8), (.ptr 70), (.slice 111 2 32)])), (78, (.map 2 77)), (22, (.slice 3 1 8)), (70, (.struct [(.slice 2 1 8)])), (47, (.slice 42 23 184)), (72, (.slice 111 2 32)), (133, (.struct [(.arr 4 (.int .u64)), (.arr 4 (.int .u64))])), (63, (.ptr 74)), (6, (.int .u8)), (57, (.slice 29 1 24)), (71, (.ptr 70)), (153, (.int .u64)), (7, (.struct [(.int .i64), (.int .i64), .bool, (.int .u8)])), (8, (.struct [(.int .i64), (.int .i64), .bool, (.int .u8)])), (128, (.struct [(.arr 4 (.int .u64)), (.arr 4 (.int .u64))])), (151, (.arr 16 (.int .u64))), (111, (.struct [(.int .i64), (.slice 54 10 88)])), (146, (.arr 8 (.int .u64))), (23, (.slice 31 7 72)), (81, (.slice 24 1 8)), (105, (.slice 77 1 8)), (139, (.slice 40 6 48))]
def tab : TypeId → TD := tableOf tbl
theorem tok : TOk Try.prog tab := tableB_ok (l := tbl) (by kernel_rfl)
theorem mixed : Try.prog.follows .mixedOrders = true := by kernel_rfl

theorem plus_ret (a b c : Int) (ha : U a) (hb : U b) (hc : U c) :
    Ret Try.prog 98 [.int .u64 a, .int .u64 b, .int .u64 c] [] (.tup [.int .u64 ((a + b + c) % 18446744073709551616), .int .u64 ((a + b + c) / 18446744073709551616)]) [] := by
  refine ret_of_body atCalls tok mixed Try.func98 (by kernel_rfl) rfl (k := 27) (rs := [.tmp 6, .tmp 7]) (by kernel_rfl) (by kernel_rfl) ?_
  (conv => whnf) <;> repeat' (first | ((first | refine wN ?_ | refine wNc ?_ | refine wA ?_ | refine wB ?_ | refine wC ?_ | refine wD ?_); conv => whnf) | ((first | apply Pick.mk | apply Cond.mk) <;> intro h <;> conv => whnf))
  all_goals
    refine End.mk (tup_eq (cons_eq (int_eq ?_) (cons_eq (int_eq ?_) rfl))) rfl
    all_goals
      simp only [decide_eq_false_iff_not, decide_eq_true_eq, w64, U] at *
      omega
theorem half_ret (a b : Int) (ha : U a) (hb : U b) :
    Ret Try.prog 97 [.int .u64 a, .int .u64 b] [] (.tup [.int .u64 (a * b / 18446744073709551616), .int .u64 (a * b % 18446744073709551616)]) [] := by
  refine ret_of_body atCalls tok mixed Try.func97 (by kernel_rfl) rfl (k := 52) (rs := [.tmp 4, .tmp 5]) (by kernel_rfl) (by kernel_rfl) ?_
  (conv => whnf) <;> repeat' (first | ((first | refine wN ?_ | refine wNc ?_ | refine wA ?_ | refine wB ?_ | refine wC ?_ | refine wD ?_); conv => whnf) | ((first | apply Pick.mk | apply Cond.mk) <;> intro h <;> conv => whnf))
  refine End.mk (tup_eq (cons_eq (int_eq ?_) (cons_eq (int_eq ?_) rfl))) rfl
  all_goals
    obtain ⟨P, Q, R, S, e1, e2, e3, e4, e5, h1, h2, h3, h4⟩ := halves ha hb
    simp only [sh32, and32, or32, e1, e2, e3, e4, e5]
    simp only [w64]
    clear e1 e2 e3 e4 e5
    omega
end Go.Proofs.Ytafiechoplbieaa

