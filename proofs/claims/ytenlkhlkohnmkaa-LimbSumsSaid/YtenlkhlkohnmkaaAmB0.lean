/- What is known of functions; live. -/
import Derived.Test.YtenlkhlkohnmkaaAmA9
set_option linter.unusedVariables false
set_option linter.unusedSimpArgs false
set_option maxRecDepth 100000
namespace Go.Proofs.Ytenlkhlkohnmkaa
open Go.AM
def know1 : KnownS := [(15, sm2 fun a b => .tup [eN (mkN (a.v * b.v / B4)), eN (mkN (a.v * b.v))]), (16, sm2 fun a b => .tup [eN (mkN (a.v * b.v / B4)), eN (mkN (a.v * b.v))]),
  (18, sm2 fun a b => .tup [eN (mkN (a.v + b.v)), .bool (decide (B4 ≤ a.v + b.v))]), (19, sm2 fun a b => .tup [eN (mkN (a.v + b.v)), .bool (decide (B4 ≤ a.v + b.v))]),
  (20, sm2 fun a b => .tup [eN (mkN (a.v - b.v)), .bool (decide (a.v < b.v))]), (21, sm2 fun a b => .tup [eN (mkN (a.v - b.v)), .bool (decide (a.v < b.v))]),
  (22, sm2 fun a b => .int .i64 (cmpI a.v b.v)), (23, sm2 fun a b => .int .i64 (cmpI a.v b.v)),
  (30, smTen), (31, smTen), (57, smSmall), (58, smSmall)]
theorem know1_ok : KnownSOk Try.prog know1 := ⟨fun _ _ => sm2_ok MulN, fun _ _ => sm2_ok rMulN, fun _ _ => sm2_ok Add_ret, fun _ _ => sm2_ok rAdd_ret, fun _ _ => sm2_ok Sub_ret, fun _ _ => sm2_ok rSub_ret,
  fun _ _ => sm2_ok Cmp_ret, fun _ _ => sm2_ok rCmp_ret, fun _ _ => smTen_ok Ten_ret, fun _ _ => smTen_ok rTen_ret, fun _ _ => smSmall_ok smallN, fun _ _ => smSmall_ok rsmallN, trivial⟩
theorem run1 {fuel d f : Nat} {xs : List Val} {h : List Blk} {v : Val} {h1 : List Blk} (e : fnE Try.prog tab atCalls (known know1) fuel d f xs h = some (v, h1)) : Ret Try.prog f xs h v h1 :=
  fnE_ok tok mixed (known_ok know1_ok) d f xs h v h1 e
theorem live1 : Ret Try.prog 17 [] [] (.bool true) [] := run1 (fuel := 1000) (d := 20) (by kernel_rfl)
end Go.Proofs.Ytenlkhlkohnmkaa
