/- The table of types; limb.plus, limb.half. -/
import Derived.Test.YtkglccolonpnlaaAmHg
import Derived.Test.YtkglccolonpnlaaRows
set_option linter.unusedVariables false
set_option linter.unusedSimpArgs false
set_option maxRecDepth 100000
namespace Go.Proofs.Ytkglccolonpnlaa
open Go.AM
def tbl : List (TypeId × TD) := [(3, (.int .i64)), (1, .func), (46, (.struct [(.int .i64), (.int .i64), .str, .str, (.struct [(.int .i64), (.struct [.bool, (.arr 4 (.int .u64)), (.int .i64)]), .bool, .str, (.int .i64)]), (.int .i64), (.int .i64), (.slice 46 17 176)])), (9, .str), (24, (.arr 4 (.int .u64))), (22, (.int .u64)), (5, (.int .u8)), (2, (.int .i64)), (26, (.struct [.bool, (.arr 4 (.int .u64)), (.int .i64)])), (28, (.struct [(.int .i64), (.struct [.bool, (.arr 4 (.int .u64)), (.int .i64)]), .bool, .str, (.int .i64)])), (32, (.int .i64)), (123, (.struct [(.int .i64), .str, (.struct [(.int .i64), (.struct [.bool, (.arr 4 (.int .u64)), (.int .i64)]), .bool, .str, (.int .i64)]), (.int .i64)])), (43, (.struct [.str, (.struct [.str, (.int .i64), (.slice 56 23 232), (.slice 39 4 72)]), (.slice 60 2 40), (.slice 77 19 216)])), (56, (.struct [.str, (.int .i64), (.struct [(.int .i64), (.int .i64)]), .bool, (.int .i64), (.struct [(.int .i64), (.int .i64), .str, .str, (.struct [(.int .i64), (.struct [.bool, (.arr 4 (.int .u64)), (.int .i64)]), .bool, .str, (.int .i64)]), (.int .i64), (.int .i64), (.slice 46 17 176)])])), (4, .bool), (103, (.struct [(.slice 123 13 120), (.int .i64), (.int .i64), (.int .i64), (.int .i64), (.slice 129 6 48)])), (39, (.struct [.str, (.int .i64), (.slice 56 23 232), (.slice 39 4 72)])), (75, (.slice 9 1 16)), (30, (.struct [(.int .i64), (.int .i64)])), (36, (.slice 56 23 232)), (44, (.slice 46 17 176)), (53, (.struct [.str, .str])), (70, (.struct [(.int .i64), (.int .i64), (.int .i64), (.int .i64), (.int .i64)])), (61, (.slice 74 5 64)), (87, (.struct [(.struct [.str, (.struct [.str, (.int .i64), (.slice 56 23 232), (.slice 39 4 72)]), (.slice 60 2 40), (.slice 77 19 216)]), (.slice 74 5 64)])), (110, (.slice 3 1 8)), (74, (.struct [(.int .i64), (.int .i64), .str, (.int .i64), (.slice 56 23 232)])), (60, (.struct [.str, (.slice 118 18 144)])), (77, (.struct [.str, (.struct [(.int .i64), (.int .i64), .str, .str, (.struct [(.int .i64), (.struct [.bool, (.arr 4 (.int .u64)), (.int .i64)]), .bool, .str, (.int .i64)]), (.int .i64), (.int .i64), (.slice 46 17 176)]), (.slice 9 1 16)])), (7, (.struct [(.int .i64), (.int .i64), .bool, (.int .u8)])), (50, (.slice 53 2 32)), (37, (.slice 39 4 72)), (40, (.slice 60 2 40)), (118, (.struct [(.struct [.bool, (.arr 4 (.int .u64)), (.int .i64)]), (.struct [.bool, (.arr 4 (.int .u64)), (.int .i64)]), (.struct [.bool, (.arr 4 (.int .u64)), (.int .i64)])])), (98, (.slice 123 13 120)), (168, (.slice 5 1 1)), (182, (.int .u64)), (58, (.slice 118 18 144)), (150, (.struct [(.arr 4 (.int .u64)), (.arr 4 (.int .u64))])), (41, (.slice 77 19 216)), (183, (.arr 16 (.int .u64))), (6, (.int .u8)), (91, (.map 53 4)), (176, (.arr 8 (.int .u64))), (79, (.slice 129 6 48)), (92, .func), (109, .func), (119, (.slice 26 6 48)), (8, (.struct [(.int .i64), (.int .i64), .bool, (.int .u8)])), (17, (.ptr 198)), (33, .func), (129, (.struct [(.struct [(.int .i64), (.int .i64), (.int .i64), (.int .i64), (.int .i64)]), (.int .i64)])), (198, (.struct [(.int .u64), (.int .u64), (.int .u32), (.int .u8), (.int .u8), (.int .u8), (.int .u8), .func, (.ptr 5), (.int .i32), (.int .i32)]))]
def tab : TypeId → TD := tableOf tbl
theorem tok : TOk Try.prog tab := tableB_ok (l := tbl) (by kernel_rfl)
theorem mixed : Try.prog.follows .mixedOrders = true := by kernel_rfl

theorem plus_ret (a b c : Int) (ha : U a) (hb : U b) (hc : U c) :
    Ret Try.prog 109 [.int .u64 a, .int .u64 b, .int .u64 c] [] (.tup [.int .u64 ((a + b + c) % 18446744073709551616), .int .u64 ((a + b + c) / 18446744073709551616)]) [] := by
  refine ret_of_body atCalls tok mixed Try.func109 (by kernel_rfl) rfl (k := 27) (rs := [.tmp 6, .tmp 7]) (by kernel_rfl) (by kernel_rfl) ?_
  (conv => whnf) <;> repeat' (first | ((first | refine wN ?_ | refine wA ?_ | refine wB ?_ | refine wC ?_ | refine wD ?_); conv => whnf) | ((first | apply Pick.mk | apply Cond.mk) <;> intro h <;> conv => whnf))
  all_goals
    refine End.mk (tup_eq (cons_eq (int_eq ?_) (cons_eq (int_eq ?_) rfl))) rfl
    all_goals
      simp only [decide_eq_false_iff_not, decide_eq_true_eq, w64, U] at *
      omega
theorem half_ret (a b : Int) (ha : U a) (hb : U b) :
    Ret Try.prog 108 [.int .u64 a, .int .u64 b] [] (.tup [.int .u64 (a * b / 18446744073709551616), .int .u64 (a * b % 18446744073709551616)]) [] := by
  refine ret_of_body atCalls tok mixed Try.func108 (by kernel_rfl) rfl (k := 52) (rs := [.tmp 4, .tmp 5]) (by kernel_rfl) (by kernel_rfl) ?_
  (conv => whnf) <;> repeat' (first | ((first | refine wN ?_ | refine wA ?_ | refine wB ?_ | refine wC ?_ | refine wD ?_); conv => whnf) | ((first | apply Pick.mk | apply Cond.mk) <;> intro h <;> conv => whnf))
  refine End.mk (tup_eq (cons_eq (int_eq ?_) (cons_eq (int_eq ?_) rfl))) rfl
  all_goals
    obtain ⟨P, Q, R, S, e1, e2, e3, e4, e5, h1, h2, h3, h4⟩ := halves ha hb
    simp only [sh32, and32, or32, e1, e2, e3, e4, e5]
    simp only [w64]
    clear e1 e2 e3 e4 e5
    omega
end Go.Proofs.Ytkglccolonpnlaa

