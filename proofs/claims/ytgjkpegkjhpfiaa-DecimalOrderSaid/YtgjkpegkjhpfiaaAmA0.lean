/- The table of types; limb.plus, limb.half. -/
import Derived.Test.YtgjkpegkjhpfiaaAmNum
import Derived.Test.YtgjkpegkjhpfiaaRows
set_option linter.unusedVariables false
set_option linter.unusedSimpArgs false
set_option maxRecDepth 100000
namespace Go.Proofs.Ytgjkpegkjhpfiaa
open Go.AM
def tbl : List (TypeId × TD) := [(26, (.struct [.bool, (.arr 4 (.int .u64)), (.int .i64)])), (24, (.arr 4 (.int .u64))), (3, (.int .i64)), (22, (.int .u64)), (1, .func), (27, (.int .i64)), (54, (.struct [(.arr 4 (.int .u64)), (.arr 4 (.int .u64))])), (2, (.int .i64)), (47, (.struct [(.arr 4 (.int .u64)), (.arr 4 (.int .u64))])), (4, .bool), (80, (.int .u64)), (78, (.arr 16 (.int .u64))), (67, (.slice 26 6 48)), (73, (.arr 8 (.int .u64)))]
def tab : TypeId → TD := tableOf tbl
theorem tok : TOk Try.prog tab := tableB_ok (l := tbl) (by kernel_rfl)
theorem mixed : Try.prog.follows .mixedOrders = true := by kernel_rfl

theorem plus_ret (a b c : Int) (ha : U a) (hb : U b) (hc : U c) :
    Ret Try.prog 71 [.int .u64 a, .int .u64 b, .int .u64 c] [] (.tup [.int .u64 ((a + b + c) % 18446744073709551616), .int .u64 ((a + b + c) / 18446744073709551616)]) [] := by
  refine ret_of_body atCalls tok mixed Try.func71 (by kernel_rfl) rfl (k := 27) (rs := [.tmp 6, .tmp 7]) (by kernel_rfl) (by kernel_rfl) ?_
  (conv => whnf) <;> repeat' (first | (refine Need.mk (by first | decide | omega | (simp; done) | (simp; omega)) ?_; conv => whnf) | (refine Cond.tt rfl ?_; conv => whnf) | (refine Cond.ff rfl ?_; conv => whnf) | (refine Pick.tt rfl ?_; conv => whnf) | (refine Pick.ff rfl ?_; conv => whnf) | (refine Pick.mk (fun h => ?_) (fun h => ?_) <;> conv => whnf) | (refine Cond.mk (fun h => ?_) (fun h => ?_) <;> conv => whnf))
  all_goals
    refine End.mk (tup_eq (cons_eq (int_eq ?_) (cons_eq (int_eq ?_) rfl))) rfl
    all_goals
      simp only [decide_eq_false_iff_not, decide_eq_true_eq, w64, U] at *
      omega
theorem half_ret (a b : Int) (ha : U a) (hb : U b) :
    Ret Try.prog 70 [.int .u64 a, .int .u64 b] [] (.tup [.int .u64 (a * b / 18446744073709551616), .int .u64 (a * b % 18446744073709551616)]) [] := by
  refine ret_of_body atCalls tok mixed Try.func70 (by kernel_rfl) rfl (k := 52) (rs := [.tmp 4, .tmp 5]) (by kernel_rfl) (by kernel_rfl) ?_
  (conv => whnf) <;> repeat' (first | (refine Need.mk (by first | decide | omega | (simp; done) | (simp; omega)) ?_; conv => whnf) | (refine Cond.tt rfl ?_; conv => whnf) | (refine Cond.ff rfl ?_; conv => whnf) | (refine Pick.tt rfl ?_; conv => whnf) | (refine Pick.ff rfl ?_; conv => whnf) | (refine Pick.mk (fun h => ?_) (fun h => ?_) <;> conv => whnf) | (refine Cond.mk (fun h => ?_) (fun h => ?_) <;> conv => whnf))
  refine End.mk (tup_eq (cons_eq (int_eq ?_) (cons_eq (int_eq ?_) rfl))) rfl
  all_goals
    obtain ⟨P, Q, R, S, e1, e2, e3, e4, e5, h1, h2, h3, h4⟩ := halves ha hb
    simp only [sh32, and32, or32, e1, e2, e3, e4, e5]
    simp only [w64]
    clear e1 e2 e3 e4 e5
    omega
end Go.Proofs.Ytgjkpegkjhpfiaa
