/- The table of types; limb.plus, limb.half. -/
import Derived.Test.YthjgnmpnagmeoaaAmHg
import Derived.Test.YthjgnmpnagmeoaaRows
set_option linter.unusedVariables false
set_option linter.unusedSimpArgs false
set_option maxRecDepth 100000
namespace Go.Proofs.Ythjgnmpnagmeoaa
open Go.AM
def tbl : List (TypeId × TD) := [(3, (.int .i64)), (34, (.slice 3 1 8)), (1, .func), (4, .bool), (56, (.struct [(.int .i64), (.int .i64), .str, (.int .i64), (.slice 70 23 232)])), (30, (.slice 56 5 64)), (22, (.slice 70 23 232)), (68, (.struct [(.int .i64), (.int .i64), .str, .str, (.struct [(.int .i64), (.struct [.bool, (.arr 4 (.int .u64)), (.int .i64)]), .bool, .str, (.int .i64)]), (.int .i64), (.int .i64), (.slice 68 17 176)])), (103, (.int .u64)), (9, .str), (70, (.struct [.str, (.int .i64), (.struct [(.int .i64), (.int .i64)]), .bool, (.int .i64), (.struct [(.int .i64), (.int .i64), .str, .str, (.struct [(.int .i64), (.struct [.bool, (.arr 4 (.int .u64)), (.int .i64)]), .bool, .str, (.int .i64)]), (.int .i64), (.int .i64), (.slice 68 17 176)])])), (39, (.map 3 4)), (35, (.int .i64)), (85, (.slice 34 1 24)), (117, (.int .u64)), (2, (.int .i64)), (59, (.int .u64)), (25, (.struct [.str, (.int .i64), (.slice 70 23 232), (.slice 25 4 72)])), (115, (.int .u32)), (5, (.int .u8)), (66, (.slice 68 17 176)), (82, (.map 3 3)), (45, (.struct [(.slice 56 5 64), (.int .i64), (.int .i64), (.int .i64)])), (88, (.slice 4 1 1)), (7, (.struct [(.int .i64), (.int .i64), .bool, (.int .u8)])), (29, (.struct [.str, (.struct [.str, (.int .i64), (.slice 70 23 232), (.slice 25 4 72)]), (.slice 143 2 40), (.slice 146 19 216)])), (75, .func), (76, .func), (87, .func), (108, (.int .i64)), (23, (.slice 25 4 72)), (26, (.slice 143 2 40)), (27, (.slice 146 19 216)), (58, (.struct [(.int .i64), (.int .i64)])), (61, (.arr 4 (.int .u64))), (63, (.struct [.bool, (.arr 4 (.int .u64)), (.int .i64)])), (65, (.struct [(.int .i64), (.struct [.bool, (.arr 4 (.int .u64)), (.int .i64)]), .bool, .str, (.int .i64)])), (141, (.slice 149 18 144)), (143, (.struct [.str, (.slice 149 18 144)])), (146, (.struct [.str, (.struct [(.int .i64), (.int .i64), .str, .str, (.struct [(.int .i64), (.struct [.bool, (.arr 4 (.int .u64)), (.int .i64)]), .bool, .str, (.int .i64)]), (.int .i64), (.int .i64), (.slice 68 17 176)]), (.slice 9 1 16)])), (149, (.struct [(.struct [.bool, (.arr 4 (.int .u64)), (.int .i64)]), (.struct [.bool, (.arr 4 (.int .u64)), (.int .i64)]), (.struct [.bool, (.arr 4 (.int .u64)), (.int .i64)])]))]
def tab : TypeId → TD := tableOf tbl
theorem tok : TOk Try.prog tab := tableB_ok (l := tbl) (by kernel_rfl)
theorem mixed : Try.prog.follows .mixedOrders = true := by kernel_rfl

end Go.Proofs.Ythjgnmpnagmeoaa

