/- What is known of functions; begun. -/
import Derived.Test.YtdpnhedbggnhiaaGreatAmGQ
import Derived.Test.YtdpnhedbggnhiaaGreatAmHg
set_option linter.unusedVariables false
set_option linter.unusedSimpArgs false
set_option maxRecDepth 100000
namespace Go.Proofs.YtdpnhedbggnhiaaGreat
open Go.AM
def divV (x l b : N) : Val := match decide (x.v < b.v) with
  | true => .tup [eN (mkN ((x.v * B4 + l.v) / b.v)), eN (mkN ((x.v * B4 + l.v) % b.v)), .bool true]
  | false => .tup [eN N0, eN N0, .bool false]
theorem Div_ret (x l b : N) : Ret Tryz.prog 65 [eN x, eN l, eN b] [] (divV x l b) [] := by
  by_cases h : x.v < b.v
  · unfold divV; rw [decT h]; exact Div_ok x l b h
  · unfold divV; rw [decF h]; exact Div_bad x l b (by omega)
theorem rDiv_ret (x l b : N) : Ret Tryz.prog 70 [eN x, eN l, eN b] [] (divV x l b) [] := by
  by_cases h : x.v < b.v
  · unfold divV; rw [decT h]; exact rDiv_ok x l b h
  · unfold divV; rw [decF h]; exact rDiv_bad x l b (by omega)
def knowB : KnownS := [(85, sm2 fun a b => .tup [eN (mkN (a.v * b.v / B4)), eN (mkN (a.v * b.v))]), (91, sm2 fun a b => .tup [eN (mkN (a.v * b.v / B4)), eN (mkN (a.v * b.v))]),
  (90, sm2 fun a b => .tup [eN (mkN (a.v + b.v)), .bool (decide (B4 ≤ a.v + b.v))]), (93, sm2 fun a b => .tup [eN (mkN (a.v + b.v)), .bool (decide (B4 ≤ a.v + b.v))]),
  (88, sm2 fun a b => .tup [eN (mkN (a.v - b.v)), .bool (decide (a.v < b.v))]), (95, sm2 fun a b => .tup [eN (mkN (a.v - b.v)), .bool (decide (a.v < b.v))]),
  (86, sm2 fun a b => .int .i64 (cmpI a.v b.v)), (92, sm2 fun a b => .int .i64 (cmpI a.v b.v)),
  (64, smTen), (69, smTen), (65, sm3 divV), (70, sm3 divV)]
theorem knowB_ok : KnownSOk Tryz.prog knowB := ⟨fun _ _ => sm2_ok MulN, fun _ _ => sm2_ok rMulN, fun _ _ => sm2_ok Add_ret, fun _ _ => sm2_ok rAdd_ret, fun _ _ => sm2_ok Sub_ret, fun _ _ => sm2_ok rSub_ret,
  fun _ _ => sm2_ok Cmp_ret, fun _ _ => sm2_ok rCmp_ret, fun _ _ => smTen_ok Ten_ret, fun _ _ => smTen_ok rTen_ret, fun _ _ => sm3_ok Div_ret, fun _ _ => sm3_ok rDiv_ret, trivial⟩
end Go.Proofs.YtdpnhedbggnhiaaGreat

