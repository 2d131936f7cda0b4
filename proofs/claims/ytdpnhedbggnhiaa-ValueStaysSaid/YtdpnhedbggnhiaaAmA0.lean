/- The table of types; limb.plus, limb.half. -/
import Derived.Test.YtdpnhedbggnhiaaAmNum
import Derived.Test.YtdpnhedbggnhiaaRows
set_option linter.unusedVariables false
set_option linter.unusedSimpArgs false
set_option maxRecDepth 100000
namespace Go.Proofs.Ytdpnhedbggnhiaa
open Go.AM
def tbl : List (TypeId × TD) := [(3, (.int .i64)), (28, (.struct [(.int .i64), (.struct [.bool, (.arr 4 (.int .u64)), (.int .i64)]), .bool, .str, (.int .i64)])), (26, (.struct [.bool, (.arr 4 (.int .u64)), (.int .i64)])), (24, (.arr 4 (.int .u64))), (22, (.int .u64)), (1, .func), (33, (.int .i64)), (48, (.struct [.str, (.slice 60 18 144)])), (4, .bool), (2, (.int .i64)), (85, (.struct [(.arr 4 (.int .u64)), (.arr 4 (.int .u64))])), (60, (.struct [(.struct [.bool, (.arr 4 (.int .u64)), (.int .i64)]), (.struct [.bool, (.arr 4 (.int .u64)), (.int .i64)]), (.struct [.bool, (.arr 4 (.int .u64)), (.int .i64)])])), (101, (.struct [(.arr 4 (.int .u64)), (.arr 4 (.int .u64))])), (46, (.slice 60 18 144)), (9, .str), (97, (.int .u64)), (5, (.int .u8)), (116, (.struct [(.ptr 116), (.slice 5 1 1)])), (114, (.slice 5 1 1)), (39, (.struct [(.int .i64), (.int .i64)])), (113, (.ptr 116)), (136, (.arr 16 (.int .u64))), (152, (.int .u32)), (79, (.slice 26 6 48)), (145, (.arr 8 (.int .u64))), (123, (.arr 80 (.int .u8))), (45, (.slice 28 10 88)), (8, (.struct [(.int .i64), (.int .i64), .bool, (.int .u8)]))]
def tab : TypeId → TD := tableOf tbl
theorem tok : TOk Try.prog tab := tableB_ok (l := tbl) (by kernel_rfl)
theorem mixed : Try.prog.follows .mixedOrders = true := by kernel_rfl

theorem plus_ret (a b c : Int) (ha : U a) (hb : U b) (hc : U c) :
    Ret Try.prog 130 [.int .u64 a, .int .u64 b, .int .u64 c] [] (.tup [.int .u64 ((a + b + c) % 18446744073709551616), .int .u64 ((a + b + c) / 18446744073709551616)]) [] := by
  refine ret_of_body atCalls tok mixed Try.func130 (by kernel_rfl) rfl (k := 27) (rs := [.tmp 6, .tmp 7]) (by kernel_rfl) (by kernel_rfl) ?_
  (conv => whnf) <;> repeat' (first | (refine Need.mk (by first | decide | omega | (simp; done) | (simp; omega)) ?_; conv => whnf) | (refine Cond.tt rfl ?_; conv => whnf) | (refine Cond.ff rfl ?_; conv => whnf) | (refine Pick.tt rfl ?_; conv => whnf) | (refine Pick.ff rfl ?_; conv => whnf) | (refine Pick.mk (fun h => ?_) (fun h => ?_) <;> conv => whnf) | (refine Cond.mk (fun h => ?_) (fun h => ?_) <;> conv => whnf))
  all_goals
    refine End.mk (tup_eq (cons_eq (int_eq ?_) (cons_eq (int_eq ?_) rfl))) rfl
    all_goals
      simp only [decide_eq_false_iff_not, decide_eq_true_eq, w64, U] at *
      omega
theorem half_ret (a b : Int) (ha : U a) (hb : U b) :
    Ret Try.prog 129 [.int .u64 a, .int .u64 b] [] (.tup [.int .u64 (a * b / 18446744073709551616), .int .u64 (a * b % 18446744073709551616)]) [] := by
  refine ret_of_body atCalls tok mixed Try.func129 (by kernel_rfl) rfl (k := 52) (rs := [.tmp 4, .tmp 5]) (by kernel_rfl) (by kernel_rfl) ?_
  (conv => whnf) <;> repeat' (first | (refine Need.mk (by first | decide | omega | (simp; done) | (simp; omega)) ?_; conv => whnf) | (refine Cond.tt rfl ?_; conv => whnf) | (refine Cond.ff rfl ?_; conv => whnf) | (refine Pick.tt rfl ?_; conv => whnf) | (refine Pick.ff rfl ?_; conv => whnf) | (refine Pick.mk (fun h => ?_) (fun h => ?_) <;> conv => whnf) | (refine Cond.mk (fun h => ?_) (fun h => ?_) <;> conv => whnf))
  refine End.mk (tup_eq (cons_eq (int_eq ?_) (cons_eq (int_eq ?_) rfl))) rfl
  all_goals
    obtain ⟨P, Q, R, S, e1, e2, e3, e4, e5, h1, h2, h3, h4⟩ := halves ha hb
    simp only [sh32, and32, or32, e1, e2, e3, e4, e5]
    simp only [w64]
    clear e1 e2 e3 e4 e5
    omega
end Go.Proofs.Ytdpnhedbggnhiaa
