/- The table of types; limb.plus, limb.half. -/
import Derived.Test.YtlbocjcponegcaaGreatAmHg
import Derived.Test.YtlbocjcponegcaaGreatRows
set_option linter.unusedVariables false
set_option linter.unusedSimpArgs false
set_option maxRecDepth 100000
namespace Go.Proofs.YtlbocjcponegcaaGreat
open Go.AM
def tbl : List (TypeId × TD) := [(3, (.int .i64)), (28, (.struct [(.int .i64), (.struct [.bool, (.arr 4 (.int .u64)), (.int .i64)]), .bool, .str, (.int .i64)])), (24, (.arr 4 (.int .u64))), (26, (.struct [.bool, (.arr 4 (.int .u64)), (.int .i64)])), (31, (.struct [(.int .i64), (.int .i64), .str, .str, (.struct [(.int .i64), (.struct [.bool, (.arr 4 (.int .u64)), (.int .i64)]), .bool, .str, (.int .i64)]), (.int .i64), (.int .i64), (.slice 31 17 176)])), (22, (.int .u64)), (1, .func), (9, .str), (64, (.struct [.str, .str])), (4, .bool), (52, (.int .i64)), (59, (.slice 9 1 16)), (62, (.slice 64 2 32)), (2, (.int .i64)), (29, (.slice 31 17 176)), (158, (.struct [(.arr 4 (.int .u64)), (.arr 4 (.int .u64))])), (42, (.struct [(.map 9 28), (.map 64 73), (.slice 123 2 40)])), (69, (.arr 5 (.int .u64))), (144, (.struct [(.arr 4 (.int .u64)), (.arr 4 (.int .u64))])), (7, (.struct [(.int .i64), (.int .i64), .bool, (.int .u8)])), (140, (.int .u64)), (123, (.struct [.str, (.slice 152 18 144)])), (152, (.struct [(.struct [.bool, (.arr 4 (.int .u64)), (.int .i64)]), (.struct [.bool, (.arr 4 (.int .u64)), (.int .i64)]), (.struct [.bool, (.arr 4 (.int .u64)), (.int .i64)])])), (121, (.slice 152 18 144)), (215, (.int .u64)), (71, (.struct [(.int .i64), (.int .i64), (.int .i64), (.int .i64), (.int .i64), (.arr 5 (.int .u64)), .bool, (.struct [.bool, (.arr 4 (.int .u64)), (.int .i64)]), (.struct [.bool, (.arr 4 (.int .u64)), (.int .i64)])])), (49, (.struct [.str, (.int .i64), (.struct [(.int .i64), (.int .i64)]), .bool, (.int .i64), (.struct [(.int .i64), (.int .i64), .str, .str, (.struct [(.int .i64), (.struct [.bool, (.arr 4 (.int .u64)), (.int .i64)]), .bool, .str, (.int .i64)]), (.int .i64), (.int .i64), (.slice 31 17 176)])])), (5, (.int .u8)), (36, (.struct [(.slice 78 11 104), (.slice 80 26 224), (.slice 123 2 40)])), (39, (.map 9 28)), (40, (.map 64 73)), (73, (.struct [(.struct [(.int .i64), (.int .i64), (.int .i64), (.int .i64), (.int .i64), (.arr 5 (.int .u64)), .bool, (.struct [.bool, (.arr 4 (.int .u64)), (.int .i64)]), (.struct [.bool, (.arr 4 (.int .u64)), (.int .i64)])]), (.int .i64)])), (83, (.arr 3 (.struct [(.int .i64), (.struct [.bool, (.arr 4 (.int .u64)), (.int .i64)]), .bool, .str, (.int .i64)]))), (91, (.slice 28 10 88)), (34, (.slice 123 2 40)), (47, (.struct [(.int .i64), (.int .i64)])), (94, (.map 9 4)), (102, (.map 64 4)), (185, (.int .i64)), (194, (.int .u32)), (214, (.arr 16 (.int .u64))), (206, (.slice 26 6 48)), (6, (.int .u8)), (126, .func), (207, (.arr 8 (.int .u64))), (78, (.struct [.str, (.struct [(.int .i64), (.struct [.bool, (.arr 4 (.int .u64)), (.int .i64)]), .bool, .str, (.int .i64)])])), (80, (.struct [(.struct [.str, .str]), (.struct [(.struct [(.int .i64), (.int .i64), (.int .i64), (.int .i64), (.int .i64), (.arr 5 (.int .u64)), .bool, (.struct [.bool, (.arr 4 (.int .u64)), (.int .i64)]), (.struct [.bool, (.arr 4 (.int .u64)), (.int .i64)])]), (.int .i64)])])), (32, (.slice 78 11 104)), (33, (.slice 80 26 224)), (8, (.struct [(.int .i64), (.int .i64), .bool, (.int .u8)]))]
def tab : TypeId → TD := tableOf tbl
theorem tok : TOk Tryz.prog tab := tableB_ok (l := tbl) (by kernel_rfl)
theorem mixed : Tryz.prog.follows .mixedOrders = true := by kernel_rfl

theorem plus_ret (a b c : Int) (ha : U a) (hb : U b) (hc : U c) :
    Ret Tryz.prog 194 [.int .u64 a, .int .u64 b, .int .u64 c] [] (.tup [.int .u64 ((a + b + c) % 18446744073709551616), .int .u64 ((a + b + c) / 18446744073709551616)]) [] := by
  refine ret_of_body atCalls tok mixed Tryz.func194 (by kernel_rfl) rfl (k := 27) (rs := [.tmp 6, .tmp 7]) (by kernel_rfl) (by kernel_rfl) ?_
  (conv => whnf) <;> repeat' (first | ((first | refine wN ?_ | refine wNc ?_ | refine wA ?_ | refine wB ?_ | refine wC ?_ | refine wD ?_); conv => whnf) | ((first | apply Pick.mk | apply Cond.mk) <;> intro h <;> conv => whnf))
  all_goals
    refine End.mk (tup_eq (cons_eq (int_eq ?_) (cons_eq (int_eq ?_) rfl))) rfl
    all_goals
      simp only [decide_eq_false_iff_not, decide_eq_true_eq, w64, U] at *
      omega
theorem half_ret (a b : Int) (ha : U a) (hb : U b) :
    Ret Tryz.prog 193 [.int .u64 a, .int .u64 b] [] (.tup [.int .u64 (a * b / 18446744073709551616), .int .u64 (a * b % 18446744073709551616)]) [] := by
  refine ret_of_body atCalls tok mixed Tryz.func193 (by kernel_rfl) rfl (k := 52) (rs := [.tmp 4, .tmp 5]) (by kernel_rfl) (by kernel_rfl) ?_
  (conv => whnf) <;> repeat' (first | ((first | refine wN ?_ | refine wNc ?_ | refine wA ?_ | refine wB ?_ | refine wC ?_ | refine wD ?_); conv => whnf) | ((first | apply Pick.mk | apply Cond.mk) <;> intro h <;> conv => whnf))
  refine End.mk (tup_eq (cons_eq (int_eq ?_) (cons_eq (int_eq ?_) rfl))) rfl
  all_goals
    obtain ⟨P, Q, R, S, e1, e2, e3, e4, e5, h1, h2, h3, h4⟩ := halves ha hb
    simp only [sh32, and32, or32, e1, e2, e3, e4, e5]
    simp only [w64]
    clear e1 e2 e3 e4 e5
    omega
end Go.Proofs.YtlbocjcponegcaaGreat

