/- Seat a: exciseref01.half, exciseref01.Mul, limb.From. PRINTED BY PROGRAM. -/
import Derived.Test.YtenlkhlkohnmkaaAmA2
set_option linter.unusedVariables false
set_option linter.unusedSimpArgs false
set_option maxRecDepth 100000
namespace Go.Proofs.Ytenlkhlkohnmkaa
open Go.AM
def dig (p0 p1 p2 p3 p4 p5 p6 p7 : Int) : Val := .agg [.int .u64 (p0 + 4294967296 * p1), .int .u64 (p2 + 4294967296 * p3), .int .u64 (p4 + 4294967296 * p5), .int .u64 (p6 + 4294967296 * p7)]
theorem rhalf0 {p0 p1 p2 p3 p4 p5 p6 p7 : Int} (h0 : V p0) (h1 : V p1) : Ret Try.prog 53 [.agg [.int .u64 (p0 + 4294967296 * p1), .int .u64 (p2 + 4294967296 * p3), .int .u64 (p4 + 4294967296 * p5), .int .u64 (p6 + 4294967296 * p7)], .int .i64 0] [] (.int .u64 p0) [] := by
  refine ret_of_body atNone tok mixed Try.func53 (by kernel_rfl) rfl (k := 14) (rs := [.tmp 4]) (by kernel_rfl) (by kernel_rfl) ?_
  conv => whnf
  (repeat (first | (refine Cond.tt rfl ?_; conv => whnf) | (refine Cond.ff rfl ?_; conv => whnf) | (refine Pick.tt rfl ?_; conv => whnf) | (refine Pick.ff rfl ?_; conv => whnf) | (refine Need.mk (by decide) ?_; conv => whnf)))
  refine End.mk (int_eq ?_) rfl
  rw [show min (IntKind.i64.wrap (Int.tmod 0 2 * 32)).toNat IntKind.u64.bits = 0 from by decide, show ((2 : Int) ^ 0) = 1 from by decide, fdiv_pos _ (by decide)]
  unfold V at *
  rw [tmod32 (by omega)]
  omega
theorem rhalf1 {p0 p1 p2 p3 p4 p5 p6 p7 : Int} (h0 : V p0) (h1 : V p1) : Ret Try.prog 53 [.agg [.int .u64 (p0 + 4294967296 * p1), .int .u64 (p2 + 4294967296 * p3), .int .u64 (p4 + 4294967296 * p5), .int .u64 (p6 + 4294967296 * p7)], .int .i64 1] [] (.int .u64 p1) [] := by
  refine ret_of_body atNone tok mixed Try.func53 (by kernel_rfl) rfl (k := 14) (rs := [.tmp 4]) (by kernel_rfl) (by kernel_rfl) ?_
  conv => whnf
  (repeat (first | (refine Cond.tt rfl ?_; conv => whnf) | (refine Cond.ff rfl ?_; conv => whnf) | (refine Pick.tt rfl ?_; conv => whnf) | (refine Pick.ff rfl ?_; conv => whnf) | (refine Need.mk (by decide) ?_; conv => whnf)))
  refine End.mk (int_eq ?_) rfl
  rw [show min (IntKind.i64.wrap (Int.tmod 1 2 * 32)).toNat IntKind.u64.bits = 32 from by decide, show ((2 : Int) ^ 32) = 4294967296 from by decide, fdiv_pos _ (by decide)]
  unfold V at *
  rw [tmod32 (by omega)]
  omega
theorem rhalf2 {p0 p1 p2 p3 p4 p5 p6 p7 : Int} (h2 : V p2) (h3 : V p3) : Ret Try.prog 53 [.agg [.int .u64 (p0 + 4294967296 * p1), .int .u64 (p2 + 4294967296 * p3), .int .u64 (p4 + 4294967296 * p5), .int .u64 (p6 + 4294967296 * p7)], .int .i64 2] [] (.int .u64 p2) [] := by
  refine ret_of_body atNone tok mixed Try.func53 (by kernel_rfl) rfl (k := 14) (rs := [.tmp 4]) (by kernel_rfl) (by kernel_rfl) ?_
  conv => whnf
  (repeat (first | (refine Cond.tt rfl ?_; conv => whnf) | (refine Cond.ff rfl ?_; conv => whnf) | (refine Pick.tt rfl ?_; conv => whnf) | (refine Pick.ff rfl ?_; conv => whnf) | (refine Need.mk (by decide) ?_; conv => whnf)))
  refine End.mk (int_eq ?_) rfl
  rw [show min (IntKind.i64.wrap (Int.tmod 2 2 * 32)).toNat IntKind.u64.bits = 0 from by decide, show ((2 : Int) ^ 0) = 1 from by decide, fdiv_pos _ (by decide)]
  unfold V at *
  rw [tmod32 (by omega)]
  omega
theorem rhalf3 {p0 p1 p2 p3 p4 p5 p6 p7 : Int} (h2 : V p2) (h3 : V p3) : Ret Try.prog 53 [.agg [.int .u64 (p0 + 4294967296 * p1), .int .u64 (p2 + 4294967296 * p3), .int .u64 (p4 + 4294967296 * p5), .int .u64 (p6 + 4294967296 * p7)], .int .i64 3] [] (.int .u64 p3) [] := by
  refine ret_of_body atNone tok mixed Try.func53 (by kernel_rfl) rfl (k := 14) (rs := [.tmp 4]) (by kernel_rfl) (by kernel_rfl) ?_
  conv => whnf
  (repeat (first | (refine Cond.tt rfl ?_; conv => whnf) | (refine Cond.ff rfl ?_; conv => whnf) | (refine Pick.tt rfl ?_; conv => whnf) | (refine Pick.ff rfl ?_; conv => whnf) | (refine Need.mk (by decide) ?_; conv => whnf)))
  refine End.mk (int_eq ?_) rfl
  rw [show min (IntKind.i64.wrap (Int.tmod 3 2 * 32)).toNat IntKind.u64.bits = 32 from by decide, show ((2 : Int) ^ 32) = 4294967296 from by decide, fdiv_pos _ (by decide)]
  unfold V at *
  rw [tmod32 (by omega)]
  omega
theorem rhalf4 {p0 p1 p2 p3 p4 p5 p6 p7 : Int} (h4 : V p4) (h5 : V p5) : Ret Try.prog 53 [.agg [.int .u64 (p0 + 4294967296 * p1), .int .u64 (p2 + 4294967296 * p3), .int .u64 (p4 + 4294967296 * p5), .int .u64 (p6 + 4294967296 * p7)], .int .i64 4] [] (.int .u64 p4) [] := by
  refine ret_of_body atNone tok mixed Try.func53 (by kernel_rfl) rfl (k := 14) (rs := [.tmp 4]) (by kernel_rfl) (by kernel_rfl) ?_
  conv => whnf
  (repeat (first | (refine Cond.tt rfl ?_; conv => whnf) | (refine Cond.ff rfl ?_; conv => whnf) | (refine Pick.tt rfl ?_; conv => whnf) | (refine Pick.ff rfl ?_; conv => whnf) | (refine Need.mk (by decide) ?_; conv => whnf)))
  refine End.mk (int_eq ?_) rfl
  rw [show min (IntKind.i64.wrap (Int.tmod 4 2 * 32)).toNat IntKind.u64.bits = 0 from by decide, show ((2 : Int) ^ 0) = 1 from by decide, fdiv_pos _ (by decide)]
  unfold V at *
  rw [tmod32 (by omega)]
  omega
theorem rhalf5 {p0 p1 p2 p3 p4 p5 p6 p7 : Int} (h4 : V p4) (h5 : V p5) : Ret Try.prog 53 [.agg [.int .u64 (p0 + 4294967296 * p1), .int .u64 (p2 + 4294967296 * p3), .int .u64 (p4 + 4294967296 * p5), .int .u64 (p6 + 4294967296 * p7)], .int .i64 5] [] (.int .u64 p5) [] := by
  refine ret_of_body atNone tok mixed Try.func53 (by kernel_rfl) rfl (k := 14) (rs := [.tmp 4]) (by kernel_rfl) (by kernel_rfl) ?_
  conv => whnf
  (repeat (first | (refine Cond.tt rfl ?_; conv => whnf) | (refine Cond.ff rfl ?_; conv => whnf) | (refine Pick.tt rfl ?_; conv => whnf) | (refine Pick.ff rfl ?_; conv => whnf) | (refine Need.mk (by decide) ?_; conv => whnf)))
  refine End.mk (int_eq ?_) rfl
  rw [show min (IntKind.i64.wrap (Int.tmod 5 2 * 32)).toNat IntKind.u64.bits = 32 from by decide, show ((2 : Int) ^ 32) = 4294967296 from by decide, fdiv_pos _ (by decide)]
  unfold V at *
  rw [tmod32 (by omega)]
  omega
theorem rhalf6 {p0 p1 p2 p3 p4 p5 p6 p7 : Int} (h6 : V p6) (h7 : V p7) : Ret Try.prog 53 [.agg [.int .u64 (p0 + 4294967296 * p1), .int .u64 (p2 + 4294967296 * p3), .int .u64 (p4 + 4294967296 * p5), .int .u64 (p6 + 4294967296 * p7)], .int .i64 6] [] (.int .u64 p6) [] := by
  refine ret_of_body atNone tok mixed Try.func53 (by kernel_rfl) rfl (k := 14) (rs := [.tmp 4]) (by kernel_rfl) (by kernel_rfl) ?_
  conv => whnf
  (repeat (first | (refine Cond.tt rfl ?_; conv => whnf) | (refine Cond.ff rfl ?_; conv => whnf) | (refine Pick.tt rfl ?_; conv => whnf) | (refine Pick.ff rfl ?_; conv => whnf) | (refine Need.mk (by decide) ?_; conv => whnf)))
  refine End.mk (int_eq ?_) rfl
  rw [show min (IntKind.i64.wrap (Int.tmod 6 2 * 32)).toNat IntKind.u64.bits = 0 from by decide, show ((2 : Int) ^ 0) = 1 from by decide, fdiv_pos _ (by decide)]
  unfold V at *
  rw [tmod32 (by omega)]
  omega
theorem rhalf7 {p0 p1 p2 p3 p4 p5 p6 p7 : Int} (h6 : V p6) (h7 : V p7) : Ret Try.prog 53 [.agg [.int .u64 (p0 + 4294967296 * p1), .int .u64 (p2 + 4294967296 * p3), .int .u64 (p4 + 4294967296 * p5), .int .u64 (p6 + 4294967296 * p7)], .int .i64 7] [] (.int .u64 p7) [] := by
  refine ret_of_body atNone tok mixed Try.func53 (by kernel_rfl) rfl (k := 14) (rs := [.tmp 4]) (by kernel_rfl) (by kernel_rfl) ?_
  conv => whnf
  (repeat (first | (refine Cond.tt rfl ?_; conv => whnf) | (refine Cond.ff rfl ?_; conv => whnf) | (refine Pick.tt rfl ?_; conv => whnf) | (refine Pick.ff rfl ?_; conv => whnf) | (refine Need.mk (by decide) ?_; conv => whnf)))
  refine End.mk (int_eq ?_) rfl
  rw [show min (IntKind.i64.wrap (Int.tmod 7 2 * 32)).toNat IntKind.u64.bits = 32 from by decide, show ((2 : Int) ^ 32) = 4294967296 from by decide, fdiv_pos _ (by decide)]
  unfold V at *
  rw [tmod32 (by omega)]
  omega
end Go.Proofs.Ytenlkhlkohnmkaa
