/- The rows' arguments, opened. -/
import Derived.Test.YtafiechoplbieaaAmA0
import Derived.Test.YtafiechoplbieaaAmHh
import Derived.WalkKit
import Derived.ProofKit
import Derived.OpenShut
import Derived.ShutString
import Derived.ChangeOld
import Derived.SizedLaws
set_option linter.unusedVariables false
set_option linter.unusedSimpArgs false
set_option maxRecDepth 100000
namespace Go.Proofs.Ytafiechoplbieaa
open Go.AM Go.ChangeShapes Go.WideShapes Go.ChangeAt Go.RowKit
theorem own : ownKnob Try.prog.godebug = none := by kernel_rfl
theorem laidOut : laidOutB Try.prog = true := by kernel_rfl
def tblR : List (TypeId × TD) := [(3, (.int .i64)), (42, (.struct [(.int .i64), (.int .i64), (.int .i64), (.int .i64), (.int .i64), (.arr 5 (.int .u64)), .bool, (.struct [.bool, (.arr 4 (.int .u64)), (.int .i64)]), (.struct [.bool, (.arr 4 (.int .u64)), (.int .i64)])])), (2, (.int .i64)), (34, (.int .u64)), (1, .func), (4, .bool), (38, (.arr 4 (.int .u64))), (40, (.struct [.bool, (.arr 4 (.int .u64)), (.int .i64)])), (77, (.ptr 95)), (25, (.int .i64)), (31, (.struct [(.int .i64), (.int .i64), (.int .i64), (.slice 54 10 88), (.int .i64), (.int .i64), (.int .i64)])), (95, (.struct [(.int .i64), (.slice 54 10 88), (.int .i64), (.slice 42 23 184), (.ptr 95), (.arr 2 (.ptr 95))])), (54, (.struct [(.int .i64), (.struct [.bool, (.arr 4 (.int .u64)), (.int .i64)]), .bool, .str, (.int .i64)])), (36, (.arr 5 (.int .u64))), (5, (.int .u8)), (80, (.struct [.bool, (.slice 3 1 8), (.ptr 95), (.map 2 77), (.int .i64)])), (56, (.slice 2 1 8)), (29, (.slice 54 10 88)), (93, (.arr 2 (.ptr 95))), (24, (.ptr 80)), (74, (.struct [(.slice 3 1 8), (.ptr 70), (.slice 111 2 32)])), (78, (.map 2 77)), (22, (.slice 3 1 8)), (70, (.struct [(.slice 2 1 8)])), (47, (.slice 42 23 184)), (72, (.slice 111 2 32)), (133, (.struct [(.arr 4 (.int .u64)), (.arr 4 (.int .u64))])), (63, (.ptr 74)), (6, (.int .u8)), (57, (.slice 29 1 24)), (71, (.ptr 70)), (153, (.int .u64)), (7, (.struct [(.int .i64), (.int .i64), .bool, (.int .u8)])), (8, (.struct [(.int .i64), (.int .i64), .bool, (.int .u8)])), (128, (.struct [(.arr 4 (.int .u64)), (.arr 4 (.int .u64))])), (151, (.arr 16 (.int .u64))), (111, (.struct [(.int .i64), (.slice 54 10 88)])), (146, (.arr 8 (.int .u64))), (23, (.slice 31 7 72)), (139, (.slice 40 6 48))]
def tabR : TypeId → TD := tableOf tblR
theorem tokR : TOk Try.prog tabR := tableB_ok (l := tblR) (by kernel_rfl)
theorem closed_tab : AM.Closed tabR := closedTB_ok (l := tblR) (by kernel_rfl)
theorem good (t : TypeId) {d : TD} (h : tabR t = d) (hd : d ≠ .bad) : AM.Good Try.prog d t := by subst h; exact tokR.good hd
section
variable {H : Type} {enc : TypeId × Value → H} {W0 : World} {spare : Nat → Bool} {held : Bool} {base : Nat} {v : Value} {d : DataW H} {ps : List MemPlace} {r : Reach} {ι : AM.Map}
end
end Go.Proofs.Ytafiechoplbieaa

set_option linter.unusedVariables false
set_option linter.unusedSimpArgs false
set_option maxRecDepth 100000
namespace Go.Proofs.Ytafiechoplbieaa
open Go.AM Go.ChangeShapes Go.WideShapes Go.ChangeAt Go.RowKit
section
variable {H : Type} {enc : TypeId × Value → H} {W0 : World} {spare : Nat → Bool} {held : Bool} {base : Nat} {v : Value} {d : DataW H} {ps : List MemPlace} {r : Reach} {ι : AM.Map}
end
end Go.Proofs.Ytafiechoplbieaa

set_option linter.unusedVariables false
set_option linter.unusedSimpArgs false
set_option maxRecDepth 100000
namespace Go.Proofs.Ytafiechoplbieaa
open Go.AM Go.ChangeShapes Go.WideShapes Go.ChangeAt Go.RowKit
section
variable {H : Type} {enc : TypeId × Value → H} {W0 : World} {spare : Nat → Bool} {held : Bool} {base : Nat} {v : Value} {d : DataW H} {ps : List MemPlace} {r : Reach} {ι : AM.Map}
end
end Go.Proofs.Ytafiechoplbieaa

