/- The table of types; limb.plus, limb.half. -/
import Derived.Test.YtenlkhlkohnmkaaAmNum
import Derived.Test.YtenlkhlkohnmkaaRows
set_option linter.unusedVariables false
set_option linter.unusedSimpArgs false
set_option maxRecDepth 100000
namespace Go.Proofs.Ytenlkhlkohnmkaa
open Go.AM
def tbl : List (TypeId × TD) := [(24, (.arr 4 (.int .u64))), (3, (.int .i64)), (22, (.int .u64)), (45, (.struct [.bool, (.arr 4 (.int .u64)), (.int .i64)])), (51, (.struct [(.int .i64), (.int .i64), (.int .i64), (.int .i64), (.int .i64), (.arr 5 (.int .u64)), .bool, (.struct [.bool, (.arr 4 (.int .u64)), (.int .i64)]), (.struct [.bool, (.arr 4 (.int .u64)), (.int .i64)])])), (1, .func), (49, (.arr 5 (.int .u64))), (47, (.struct [(.int .i64), (.struct [.bool, (.arr 4 (.int .u64)), (.int .i64)]), .bool, .str, (.int .i64)])), (4, .bool), (5, (.int .u8)), (2, (.int .i64)), (36, (.int .i64)), (78, (.int .u64)), (9, .str), (63, (.slice 5 1 1)), (93, (.struct [(.arr 4 (.int .u64)), (.arr 4 (.int .u64))])), (64, (.slice 51 23 184)), (76, (.arr 16 (.int .u64))), (6, (.int .u8)), (7, (.struct [(.int .i64), (.int .i64), .bool, (.int .u8)])), (8, (.struct [(.int .i64), (.int .i64), .bool, (.int .u8)])), (71, (.arr 8 (.int .u64))), (87, .func), (69, (.slice 45 6 48)), (80, (.arr 80 (.int .u8))), (62, (.slice 47 10 88))]
def tab : TypeId → TD := tableOf tbl
theorem tok : TOk Try.prog tab := tableB_ok (l := tbl) (by kernel_rfl)
theorem mixed : Try.prog.follows .mixedOrders = true := by kernel_rfl

theorem plus_ret (a b c : Int) (ha : U a) (hb : U b) (hc : U c) :
    Ret Try.prog 52 [.int .u64 a, .int .u64 b, .int .u64 c] [] (.tup [.int .u64 ((a + b + c) % 18446744073709551616), .int .u64 ((a + b + c) / 18446744073709551616)]) [] := by
  refine ret_of_body atCalls tok mixed Try.func52 (by kernel_rfl) rfl (k := 27) (rs := [.tmp 6, .tmp 7]) (by kernel_rfl) (by kernel_rfl) ?_
  (conv => whnf) <;> repeat' (first | (refine Need.mk (by first | decide | omega | (simp; done) | (simp; omega)) ?_; conv => whnf) | (refine Cond.tt rfl ?_; conv => whnf) | (refine Cond.ff rfl ?_; conv => whnf) | (refine Pick.tt rfl ?_; conv => whnf) | (refine Pick.ff rfl ?_; conv => whnf) | (refine Pick.mk (fun h => ?_) (fun h => ?_) <;> conv => whnf) | (refine Cond.mk (fun h => ?_) (fun h => ?_) <;> conv => whnf))
  all_goals
    refine End.mk (tup_eq (cons_eq (int_eq ?_) (cons_eq (int_eq ?_) rfl))) rfl
    all_goals
      simp only [decide_eq_false_iff_not, decide_eq_true_eq, w64, U] at *
      omega
theorem half_ret (a b : Int) (ha : U a) (hb : U b) :
    Ret Try.prog 51 [.int .u64 a, .int .u64 b] [] (.tup [.int .u64 (a * b / 18446744073709551616), .int .u64 (a * b % 18446744073709551616)]) [] := by
  refine ret_of_body atCalls tok mixed Try.func51 (by kernel_rfl) rfl (k := 52) (rs := [.tmp 4, .tmp 5]) (by kernel_rfl) (by kernel_rfl) ?_
  (conv => whnf) <;> repeat' (first | (refine Need.mk (by first | decide | omega | (simp; done) | (simp; omega)) ?_; conv => whnf) | (refine Cond.tt rfl ?_; conv => whnf) | (refine Cond.ff rfl ?_; conv => whnf) | (refine Pick.tt rfl ?_; conv => whnf) | (refine Pick.ff rfl ?_; conv => whnf) | (refine Pick.mk (fun h => ?_) (fun h => ?_) <;> conv => whnf) | (refine Cond.mk (fun h => ?_) (fun h => ?_) <;> conv => whnf))
  refine End.mk (tup_eq (cons_eq (int_eq ?_) (cons_eq (int_eq ?_) rfl))) rfl
  all_goals
    obtain ⟨P, Q, R, S, e1, e2, e3, e4, e5, h1, h2, h3, h4⟩ := halves ha hb
    simp only [sh32, and32, or32, e1, e2, e3, e4, e5]
    simp only [w64]
    clear e1 e2 e3 e4 e5
    omega
end Go.Proofs.Ytenlkhlkohnmkaa
