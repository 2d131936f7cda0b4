/- What is known of functions; begun. -/
import Derived.Test.YtlbocjcponegcaaGreatAmGQ
import Derived.Test.YtlbocjcponegcaaGreatAmHg
set_option linter.unusedVariables false
set_option linter.unusedSimpArgs false
set_option maxRecDepth 100000
namespace Go.Proofs.YtlbocjcponegcaaGreat
open Go.AM
def divV (x l b : N) : Val := match decide (x.v < b.v) with
  | true => .tup [eN (mkN ((x.v * B4 + l.v) / b.v)), eN (mkN ((x.v * B4 + l.v) % b.v)), .bool true]
  | false => .tup [eN N0, eN N0, .bool false]
theorem Div_ret (x l b : N) : Ret Tryz.prog 146 [eN x, eN l, eN b] [] (divV x l b) [] := by
  by_cases h : x.v < b.v
  · unfold divV; rw [decT h]; exact Div_ok x l b h
  · unfold divV; rw [decF h]; exact Div_bad x l b (by omega)
theorem rDiv_ret (x l b : N) : Ret Tryz.prog 161 [eN x, eN l, eN b] [] (divV x l b) [] := by
  by_cases h : x.v < b.v
  · unfold divV; rw [decT h]; exact rDiv_ok x l b h
  · unfold divV; rw [decF h]; exact rDiv_bad x l b (by omega)
def knowB : KnownS := [(154, sm2 fun a b => .tup [eN (mkN (a.v * b.v / B4)), eN (mkN (a.v * b.v))]), (167, sm2 fun a b => .tup [eN (mkN (a.v * b.v / B4)), eN (mkN (a.v * b.v))]),
  (192, sm2 fun a b => .tup [eN (mkN (a.v + b.v)), .bool (decide (B4 ≤ a.v + b.v))]), (198, sm2 fun a b => .tup [eN (mkN (a.v + b.v)), .bool (decide (B4 ≤ a.v + b.v))]),
  (190, sm2 fun a b => .tup [eN (mkN (a.v - b.v)), .bool (decide (a.v < b.v))]), (200, sm2 fun a b => .tup [eN (mkN (a.v - b.v)), .bool (decide (a.v < b.v))]),
  (188, sm2 fun a b => .int .i64 (cmpI a.v b.v)), (197, sm2 fun a b => .int .i64 (cmpI a.v b.v)),
  (145, smTen), (160, smTen), (146, sm3 divV), (161, sm3 divV)]
theorem knowB_ok : KnownSOk Tryz.prog knowB := ⟨fun _ _ => sm2_ok MulN, fun _ _ => sm2_ok rMulN, fun _ _ => sm2_ok Add_ret, fun _ _ => sm2_ok rAdd_ret, fun _ _ => sm2_ok Sub_ret, fun _ _ => sm2_ok rSub_ret,
  fun _ _ => sm2_ok Cmp_ret, fun _ _ => sm2_ok rCmp_ret, fun _ _ => smTen_ok Ten_ret, fun _ _ => smTen_ok rTen_ret, fun _ _ => sm3_ok Div_ret, fun _ _ => sm3_ok rDiv_ret, trivial⟩
end Go.Proofs.YtlbocjcponegcaaGreat

