/- limb and exciseref01: From, Add, Sub. -/
import Derived.Test.YtkglccolonpnlaaAmA0
import Derived.Test.YtkglccolonpnlaaAmLib
set_option linter.unusedVariables false
set_option linter.unusedSimpArgs false
set_option maxRecDepth 100000
namespace Go.Proofs.Ytkglccolonpnlaa
open Go.AM
theorem From_ret (u : Int) (hu : U u) : Ret Try.prog 107 [.int .u64 u] [] (eN (mkN u)) [] := by
  refine ret_of_body atCalls tok mixed Try.func107 (by kernel_rfl) rfl (k := 5) (rs := [.cell 2 24]) (by kernel_rfl) (by kernel_rfl) ?_
  (conv => whnf) <;> repeat' (first | ((first | refine wN ?_ | refine wA ?_ | refine wB ?_ | refine wC ?_ | refine wD ?_); conv => whnf) | ((first | apply Pick.mk | apply Cond.mk) <;> intro h <;> conv => whnf))
  refine End.mk (eN_is hu (by decide) (by decide) (by decide) ?_) rfl
  unfold U at hu; unfold val4 B4; omega
end Go.Proofs.Ytkglccolonpnlaa

set_option linter.unusedVariables false
set_option linter.unusedSimpArgs false
set_option maxRecDepth 100000
namespace Go.Proofs.Ytkglccolonpnlaa
open Go.AM
theorem mul_all {a0 a1 a2 a3 b0 b1 b2 b3 : Int} : val4 a0 a1 a2 a3 * val4 b0 b1 b2 b3 = val4 (val4 (a0 * b0) (a0 * b1) (a0 * b2) (a0 * b3)) (val4 (a1 * b0) (a1 * b1) (a1 * b2) (a1 * b3)) (val4 (a2 * b0) (a2 * b1) (a2 * b2) (a2 * b3)) (val4 (a3 * b0) (a3 * b1) (a3 * b2) (a3 * b3)) := by
  rw [val4_mul, mul_val4, mul_val4, mul_val4, mul_val4]
set_option maxRecDepth 100000 in
theorem Mul_ret (a b : Int) (ha : W a) (hb : W b) : Ret Try.prog 98 [natI a, natI b] [] (.tup [natI (a * b / B4), natI (a * b % B4)]) [] := by
  obtain ⟨a0, a1, a2, a3, ha0, ha1, ha2, ha3, rfl⟩ := W_limbs ha
  obtain ⟨b0, b1, b2, b3, hb0, hb1, hb2, hb3, rfl⟩ := W_limbs hb
  rw [natI_val ha0 ha1 ha2 ha3, natI_val hb0 hb1 hb2 hb3]
  clear ha hb
  have hz : U 0 := by unfold U; decide
  refine ret_of_body atNone tok mixed Try.func98 (by kernel_rfl) rfl (k := 61) (rs := [.cell 4 24, .cell 5 24]) (by kernel_rfl) (by kernel_rfl) ?_
  conv => whnf
  (repeat (first | (refine Cond.tt rfl ?_; conv => whnf) | (refine Cond.ff rfl ?_; conv => whnf) | (refine Pick.tt rfl ?_; conv => whnf) | (refine Pick.ff rfl ?_; conv => whnf) | (refine Need.mk (by decide) ?_; conv => whnf)))
  intro I hw hs
  apply hs
  conv => whnf
  (repeat (first | (refine Cond.tt rfl ?_; conv => whnf) | (refine Cond.ff rfl ?_; conv => whnf) | (refine Pick.tt rfl ?_; conv => whnf) | (refine Pick.ff rfl ?_; conv => whnf) | (refine Need.mk (by decide) ?_; conv => whnf)))
  intro I0 hw0 hs0
  apply hs0
  conv => whnf
  (repeat (first | (refine Cond.tt rfl ?_; conv => whnf) | (refine Cond.ff rfl ?_; conv => whnf) | (refine Pick.tt rfl ?_; conv => whnf) | (refine Pick.ff rfl ?_; conv => whnf) | (refine Need.mk (by decide) ?_; conv => whnf)))
  refine Called.mk _ _ (half_ret _ _ ha0 hb0) ?_
  conv => whnf
  (repeat (first | (refine Cond.tt rfl ?_; conv => whnf) | (refine Cond.ff rfl ?_; conv => whnf) | (refine Pick.tt rfl ?_; conv => whnf) | (refine Pick.ff rfl ?_; conv => whnf) | (refine Need.mk (by decide) ?_; conv => whnf)))
  obtain ⟨h00, l00, s00, o00, d00, e1, e2, e3, e4, e5, hh00, hl00, hs00, hd00, q00⟩ := mul_step ha0 hb0 hz hz
  rw [e1, e2]
  refine Called.mk _ _ (plus_ret _ _ _ hz hl00 hz) ?_
  conv => whnf
  (repeat (first | (refine Cond.tt rfl ?_; conv => whnf) | (refine Cond.ff rfl ?_; conv => whnf) | (refine Pick.tt rfl ?_; conv => whnf) | (refine Pick.ff rfl ?_; conv => whnf) | (refine Need.mk (by decide) ?_; conv => whnf)))
  rw [e3, e4, e5]
  clear e1 e2 e3 e4 e5
  apply hs0
  conv => whnf
  (repeat (first | (refine Cond.tt rfl ?_; conv => whnf) | (refine Cond.ff rfl ?_; conv => whnf) | (refine Pick.tt rfl ?_; conv => whnf) | (refine Pick.ff rfl ?_; conv => whnf) | (refine Need.mk (by decide) ?_; conv => whnf)))
  refine Called.mk _ _ (half_ret _ _ ha0 hb1) ?_
  conv => whnf
  (repeat (first | (refine Cond.tt rfl ?_; conv => whnf) | (refine Cond.ff rfl ?_; conv => whnf) | (refine Pick.tt rfl ?_; conv => whnf) | (refine Pick.ff rfl ?_; conv => whnf) | (refine Need.mk (by decide) ?_; conv => whnf)))
  obtain ⟨h01, l01, s01, o01, d01, e1, e2, e3, e4, e5, hh01, hl01, hs01, hd01, q01⟩ := mul_step ha0 hb1 hz hd00
  rw [e1, e2]
  refine Called.mk _ _ (plus_ret _ _ _ hz hl01 hd00) ?_
  conv => whnf
  (repeat (first | (refine Cond.tt rfl ?_; conv => whnf) | (refine Cond.ff rfl ?_; conv => whnf) | (refine Pick.tt rfl ?_; conv => whnf) | (refine Pick.ff rfl ?_; conv => whnf) | (refine Need.mk (by decide) ?_; conv => whnf)))
  rw [e3, e4, e5]
  clear e1 e2 e3 e4 e5
  apply hs0
  conv => whnf
  (repeat (first | (refine Cond.tt rfl ?_; conv => whnf) | (refine Cond.ff rfl ?_; conv => whnf) | (refine Pick.tt rfl ?_; conv => whnf) | (refine Pick.ff rfl ?_; conv => whnf) | (refine Need.mk (by decide) ?_; conv => whnf)))
  refine Called.mk _ _ (half_ret _ _ ha0 hb2) ?_
  conv => whnf
  (repeat (first | (refine Cond.tt rfl ?_; conv => whnf) | (refine Cond.ff rfl ?_; conv => whnf) | (refine Pick.tt rfl ?_; conv => whnf) | (refine Pick.ff rfl ?_; conv => whnf) | (refine Need.mk (by decide) ?_; conv => whnf)))
  obtain ⟨h02, l02, s02, o02, d02, e1, e2, e3, e4, e5, hh02, hl02, hs02, hd02, q02⟩ := mul_step ha0 hb2 hz hd01
  rw [e1, e2]
  refine Called.mk _ _ (plus_ret _ _ _ hz hl02 hd01) ?_
  conv => whnf
  (repeat (first | (refine Cond.tt rfl ?_; conv => whnf) | (refine Cond.ff rfl ?_; conv => whnf) | (refine Pick.tt rfl ?_; conv => whnf) | (refine Pick.ff rfl ?_; conv => whnf) | (refine Need.mk (by decide) ?_; conv => whnf)))
  rw [e3, e4, e5]
  clear e1 e2 e3 e4 e5
  apply hs0
  conv => whnf
  (repeat (first | (refine Cond.tt rfl ?_; conv => whnf) | (refine Cond.ff rfl ?_; conv => whnf) | (refine Pick.tt rfl ?_; conv => whnf) | (refine Pick.ff rfl ?_; conv => whnf) | (refine Need.mk (by decide) ?_; conv => whnf)))
  refine Called.mk _ _ (half_ret _ _ ha0 hb3) ?_
  conv => whnf
  (repeat (first | (refine Cond.tt rfl ?_; conv => whnf) | (refine Cond.ff rfl ?_; conv => whnf) | (refine Pick.tt rfl ?_; conv => whnf) | (refine Pick.ff rfl ?_; conv => whnf) | (refine Need.mk (by decide) ?_; conv => whnf)))
  obtain ⟨h03, l03, s03, o03, d03, e1, e2, e3, e4, e5, hh03, hl03, hs03, hd03, q03⟩ := mul_step ha0 hb3 hz hd02
  rw [e1, e2]
  refine Called.mk _ _ (plus_ret _ _ _ hz hl03 hd02) ?_
  conv => whnf
  (repeat (first | (refine Cond.tt rfl ?_; conv => whnf) | (refine Cond.ff rfl ?_; conv => whnf) | (refine Pick.tt rfl ?_; conv => whnf) | (refine Pick.ff rfl ?_; conv => whnf) | (refine Need.mk (by decide) ?_; conv => whnf)))
  rw [e3, e4, e5]
  clear e1 e2 e3 e4 e5
  apply hs0
  conv => whnf
  (repeat (first | (refine Cond.tt rfl ?_; conv => whnf) | (refine Cond.ff rfl ?_; conv => whnf) | (refine Pick.tt rfl ?_; conv => whnf) | (refine Pick.ff rfl ?_; conv => whnf) | (refine Need.mk (by decide) ?_; conv => whnf)))
  clear hs0 hw0
  apply hs
  conv => whnf
  (repeat (first | (refine Cond.tt rfl ?_; conv => whnf) | (refine Cond.ff rfl ?_; conv => whnf) | (refine Pick.tt rfl ?_; conv => whnf) | (refine Pick.ff rfl ?_; conv => whnf) | (refine Need.mk (by decide) ?_; conv => whnf)))
  intro I1 hw1 hs1
  apply hs1
  conv => whnf
  (repeat (first | (refine Cond.tt rfl ?_; conv => whnf) | (refine Cond.ff rfl ?_; conv => whnf) | (refine Pick.tt rfl ?_; conv => whnf) | (refine Pick.ff rfl ?_; conv => whnf) | (refine Need.mk (by decide) ?_; conv => whnf)))
  refine Called.mk _ _ (half_ret _ _ ha1 hb0) ?_
  conv => whnf
  (repeat (first | (refine Cond.tt rfl ?_; conv => whnf) | (refine Cond.ff rfl ?_; conv => whnf) | (refine Pick.tt rfl ?_; conv => whnf) | (refine Pick.ff rfl ?_; conv => whnf) | (refine Need.mk (by decide) ?_; conv => whnf)))
  obtain ⟨h10, l10, s10, o10, d10, e1, e2, e3, e4, e5, hh10, hl10, hs10, hd10, q10⟩ := mul_step ha1 hb0 hs01 hz
  rw [e1, e2]
  refine Called.mk _ _ (plus_ret _ _ _ hs01 hl10 hz) ?_
  conv => whnf
  (repeat (first | (refine Cond.tt rfl ?_; conv => whnf) | (refine Cond.ff rfl ?_; conv => whnf) | (refine Pick.tt rfl ?_; conv => whnf) | (refine Pick.ff rfl ?_; conv => whnf) | (refine Need.mk (by decide) ?_; conv => whnf)))
  rw [e3, e4, e5]
  clear e1 e2 e3 e4 e5
  apply hs1
  conv => whnf
  (repeat (first | (refine Cond.tt rfl ?_; conv => whnf) | (refine Cond.ff rfl ?_; conv => whnf) | (refine Pick.tt rfl ?_; conv => whnf) | (refine Pick.ff rfl ?_; conv => whnf) | (refine Need.mk (by decide) ?_; conv => whnf)))
  refine Called.mk _ _ (half_ret _ _ ha1 hb1) ?_
  conv => whnf
  (repeat (first | (refine Cond.tt rfl ?_; conv => whnf) | (refine Cond.ff rfl ?_; conv => whnf) | (refine Pick.tt rfl ?_; conv => whnf) | (refine Pick.ff rfl ?_; conv => whnf) | (refine Need.mk (by decide) ?_; conv => whnf)))
  obtain ⟨h11, l11, s11, o11, d11, e1, e2, e3, e4, e5, hh11, hl11, hs11, hd11, q11⟩ := mul_step ha1 hb1 hs02 hd10
  rw [e1, e2]
  refine Called.mk _ _ (plus_ret _ _ _ hs02 hl11 hd10) ?_
  conv => whnf
  (repeat (first | (refine Cond.tt rfl ?_; conv => whnf) | (refine Cond.ff rfl ?_; conv => whnf) | (refine Pick.tt rfl ?_; conv => whnf) | (refine Pick.ff rfl ?_; conv => whnf) | (refine Need.mk (by decide) ?_; conv => whnf)))
  rw [e3, e4, e5]
  clear e1 e2 e3 e4 e5
  apply hs1
  conv => whnf
  (repeat (first | (refine Cond.tt rfl ?_; conv => whnf) | (refine Cond.ff rfl ?_; conv => whnf) | (refine Pick.tt rfl ?_; conv => whnf) | (refine Pick.ff rfl ?_; conv => whnf) | (refine Need.mk (by decide) ?_; conv => whnf)))
  refine Called.mk _ _ (half_ret _ _ ha1 hb2) ?_
  conv => whnf
  (repeat (first | (refine Cond.tt rfl ?_; conv => whnf) | (refine Cond.ff rfl ?_; conv => whnf) | (refine Pick.tt rfl ?_; conv => whnf) | (refine Pick.ff rfl ?_; conv => whnf) | (refine Need.mk (by decide) ?_; conv => whnf)))
  obtain ⟨h12, l12, s12, o12, d12, e1, e2, e3, e4, e5, hh12, hl12, hs12, hd12, q12⟩ := mul_step ha1 hb2 hs03 hd11
  rw [e1, e2]
  refine Called.mk _ _ (plus_ret _ _ _ hs03 hl12 hd11) ?_
  conv => whnf
  (repeat (first | (refine Cond.tt rfl ?_; conv => whnf) | (refine Cond.ff rfl ?_; conv => whnf) | (refine Pick.tt rfl ?_; conv => whnf) | (refine Pick.ff rfl ?_; conv => whnf) | (refine Need.mk (by decide) ?_; conv => whnf)))
  rw [e3, e4, e5]
  clear e1 e2 e3 e4 e5
  apply hs1
  conv => whnf
  (repeat (first | (refine Cond.tt rfl ?_; conv => whnf) | (refine Cond.ff rfl ?_; conv => whnf) | (refine Pick.tt rfl ?_; conv => whnf) | (refine Pick.ff rfl ?_; conv => whnf) | (refine Need.mk (by decide) ?_; conv => whnf)))
  refine Called.mk _ _ (half_ret _ _ ha1 hb3) ?_
  conv => whnf
  (repeat (first | (refine Cond.tt rfl ?_; conv => whnf) | (refine Cond.ff rfl ?_; conv => whnf) | (refine Pick.tt rfl ?_; conv => whnf) | (refine Pick.ff rfl ?_; conv => whnf) | (refine Need.mk (by decide) ?_; conv => whnf)))
  obtain ⟨h13, l13, s13, o13, d13, e1, e2, e3, e4, e5, hh13, hl13, hs13, hd13, q13⟩ := mul_step ha1 hb3 hd03 hd12
  rw [e1, e2]
  refine Called.mk _ _ (plus_ret _ _ _ hd03 hl13 hd12) ?_
  conv => whnf
  (repeat (first | (refine Cond.tt rfl ?_; conv => whnf) | (refine Cond.ff rfl ?_; conv => whnf) | (refine Pick.tt rfl ?_; conv => whnf) | (refine Pick.ff rfl ?_; conv => whnf) | (refine Need.mk (by decide) ?_; conv => whnf)))
  rw [e3, e4, e5]
  clear e1 e2 e3 e4 e5
  apply hs1
  conv => whnf
  (repeat (first | (refine Cond.tt rfl ?_; conv => whnf) | (refine Cond.ff rfl ?_; conv => whnf) | (refine Pick.tt rfl ?_; conv => whnf) | (refine Pick.ff rfl ?_; conv => whnf) | (refine Need.mk (by decide) ?_; conv => whnf)))
  clear hs1 hw1
  apply hs
  conv => whnf
  (repeat (first | (refine Cond.tt rfl ?_; conv => whnf) | (refine Cond.ff rfl ?_; conv => whnf) | (refine Pick.tt rfl ?_; conv => whnf) | (refine Pick.ff rfl ?_; conv => whnf) | (refine Need.mk (by decide) ?_; conv => whnf)))
  intro I2 hw2 hs2
  apply hs2
  conv => whnf
  (repeat (first | (refine Cond.tt rfl ?_; conv => whnf) | (refine Cond.ff rfl ?_; conv => whnf) | (refine Pick.tt rfl ?_; conv => whnf) | (refine Pick.ff rfl ?_; conv => whnf) | (refine Need.mk (by decide) ?_; conv => whnf)))
  refine Called.mk _ _ (half_ret _ _ ha2 hb0) ?_
  conv => whnf
  (repeat (first | (refine Cond.tt rfl ?_; conv => whnf) | (refine Cond.ff rfl ?_; conv => whnf) | (refine Pick.tt rfl ?_; conv => whnf) | (refine Pick.ff rfl ?_; conv => whnf) | (refine Need.mk (by decide) ?_; conv => whnf)))
  obtain ⟨h20, l20, s20, o20, d20, e1, e2, e3, e4, e5, hh20, hl20, hs20, hd20, q20⟩ := mul_step ha2 hb0 hs11 hz
  rw [e1, e2]
  refine Called.mk _ _ (plus_ret _ _ _ hs11 hl20 hz) ?_
  conv => whnf
  (repeat (first | (refine Cond.tt rfl ?_; conv => whnf) | (refine Cond.ff rfl ?_; conv => whnf) | (refine Pick.tt rfl ?_; conv => whnf) | (refine Pick.ff rfl ?_; conv => whnf) | (refine Need.mk (by decide) ?_; conv => whnf)))
  rw [e3, e4, e5]
  clear e1 e2 e3 e4 e5
  apply hs2
  conv => whnf
  (repeat (first | (refine Cond.tt rfl ?_; conv => whnf) | (refine Cond.ff rfl ?_; conv => whnf) | (refine Pick.tt rfl ?_; conv => whnf) | (refine Pick.ff rfl ?_; conv => whnf) | (refine Need.mk (by decide) ?_; conv => whnf)))
  refine Called.mk _ _ (half_ret _ _ ha2 hb1) ?_
  conv => whnf
  (repeat (first | (refine Cond.tt rfl ?_; conv => whnf) | (refine Cond.ff rfl ?_; conv => whnf) | (refine Pick.tt rfl ?_; conv => whnf) | (refine Pick.ff rfl ?_; conv => whnf) | (refine Need.mk (by decide) ?_; conv => whnf)))
  obtain ⟨h21, l21, s21, o21, d21, e1, e2, e3, e4, e5, hh21, hl21, hs21, hd21, q21⟩ := mul_step ha2 hb1 hs12 hd20
  rw [e1, e2]
  refine Called.mk _ _ (plus_ret _ _ _ hs12 hl21 hd20) ?_
  conv => whnf
  (repeat (first | (refine Cond.tt rfl ?_; conv => whnf) | (refine Cond.ff rfl ?_; conv => whnf) | (refine Pick.tt rfl ?_; conv => whnf) | (refine Pick.ff rfl ?_; conv => whnf) | (refine Need.mk (by decide) ?_; conv => whnf)))
  rw [e3, e4, e5]
  clear e1 e2 e3 e4 e5
  apply hs2
  conv => whnf
  (repeat (first | (refine Cond.tt rfl ?_; conv => whnf) | (refine Cond.ff rfl ?_; conv => whnf) | (refine Pick.tt rfl ?_; conv => whnf) | (refine Pick.ff rfl ?_; conv => whnf) | (refine Need.mk (by decide) ?_; conv => whnf)))
  refine Called.mk _ _ (half_ret _ _ ha2 hb2) ?_
  conv => whnf
  (repeat (first | (refine Cond.tt rfl ?_; conv => whnf) | (refine Cond.ff rfl ?_; conv => whnf) | (refine Pick.tt rfl ?_; conv => whnf) | (refine Pick.ff rfl ?_; conv => whnf) | (refine Need.mk (by decide) ?_; conv => whnf)))
  obtain ⟨h22, l22, s22, o22, d22, e1, e2, e3, e4, e5, hh22, hl22, hs22, hd22, q22⟩ := mul_step ha2 hb2 hs13 hd21
  rw [e1, e2]
  refine Called.mk _ _ (plus_ret _ _ _ hs13 hl22 hd21) ?_
  conv => whnf
  (repeat (first | (refine Cond.tt rfl ?_; conv => whnf) | (refine Cond.ff rfl ?_; conv => whnf) | (refine Pick.tt rfl ?_; conv => whnf) | (refine Pick.ff rfl ?_; conv => whnf) | (refine Need.mk (by decide) ?_; conv => whnf)))
  rw [e3, e4, e5]
  clear e1 e2 e3 e4 e5
  apply hs2
  conv => whnf
  (repeat (first | (refine Cond.tt rfl ?_; conv => whnf) | (refine Cond.ff rfl ?_; conv => whnf) | (refine Pick.tt rfl ?_; conv => whnf) | (refine Pick.ff rfl ?_; conv => whnf) | (refine Need.mk (by decide) ?_; conv => whnf)))
  refine Called.mk _ _ (half_ret _ _ ha2 hb3) ?_
  conv => whnf
  (repeat (first | (refine Cond.tt rfl ?_; conv => whnf) | (refine Cond.ff rfl ?_; conv => whnf) | (refine Pick.tt rfl ?_; conv => whnf) | (refine Pick.ff rfl ?_; conv => whnf) | (refine Need.mk (by decide) ?_; conv => whnf)))
  obtain ⟨h23, l23, s23, o23, d23, e1, e2, e3, e4, e5, hh23, hl23, hs23, hd23, q23⟩ := mul_step ha2 hb3 hd13 hd22
  rw [e1, e2]
  refine Called.mk _ _ (plus_ret _ _ _ hd13 hl23 hd22) ?_
  conv => whnf
  (repeat (first | (refine Cond.tt rfl ?_; conv => whnf) | (refine Cond.ff rfl ?_; conv => whnf) | (refine Pick.tt rfl ?_; conv => whnf) | (refine Pick.ff rfl ?_; conv => whnf) | (refine Need.mk (by decide) ?_; conv => whnf)))
  rw [e3, e4, e5]
  clear e1 e2 e3 e4 e5
  apply hs2
  conv => whnf
  (repeat (first | (refine Cond.tt rfl ?_; conv => whnf) | (refine Cond.ff rfl ?_; conv => whnf) | (refine Pick.tt rfl ?_; conv => whnf) | (refine Pick.ff rfl ?_; conv => whnf) | (refine Need.mk (by decide) ?_; conv => whnf)))
  clear hs2 hw2
  apply hs
  conv => whnf
  (repeat (first | (refine Cond.tt rfl ?_; conv => whnf) | (refine Cond.ff rfl ?_; conv => whnf) | (refine Pick.tt rfl ?_; conv => whnf) | (refine Pick.ff rfl ?_; conv => whnf) | (refine Need.mk (by decide) ?_; conv => whnf)))
  intro I3 hw3 hs3
  apply hs3
  conv => whnf
  (repeat (first | (refine Cond.tt rfl ?_; conv => whnf) | (refine Cond.ff rfl ?_; conv => whnf) | (refine Pick.tt rfl ?_; conv => whnf) | (refine Pick.ff rfl ?_; conv => whnf) | (refine Need.mk (by decide) ?_; conv => whnf)))
  refine Called.mk _ _ (half_ret _ _ ha3 hb0) ?_
  conv => whnf
  (repeat (first | (refine Cond.tt rfl ?_; conv => whnf) | (refine Cond.ff rfl ?_; conv => whnf) | (refine Pick.tt rfl ?_; conv => whnf) | (refine Pick.ff rfl ?_; conv => whnf) | (refine Need.mk (by decide) ?_; conv => whnf)))
  obtain ⟨h30, l30, s30, o30, d30, e1, e2, e3, e4, e5, hh30, hl30, hs30, hd30, q30⟩ := mul_step ha3 hb0 hs21 hz
  rw [e1, e2]
  refine Called.mk _ _ (plus_ret _ _ _ hs21 hl30 hz) ?_
  conv => whnf
  (repeat (first | (refine Cond.tt rfl ?_; conv => whnf) | (refine Cond.ff rfl ?_; conv => whnf) | (refine Pick.tt rfl ?_; conv => whnf) | (refine Pick.ff rfl ?_; conv => whnf) | (refine Need.mk (by decide) ?_; conv => whnf)))
  rw [e3, e4, e5]
  clear e1 e2 e3 e4 e5
  apply hs3
  conv => whnf
  (repeat (first | (refine Cond.tt rfl ?_; conv => whnf) | (refine Cond.ff rfl ?_; conv => whnf) | (refine Pick.tt rfl ?_; conv => whnf) | (refine Pick.ff rfl ?_; conv => whnf) | (refine Need.mk (by decide) ?_; conv => whnf)))
  refine Called.mk _ _ (half_ret _ _ ha3 hb1) ?_
  conv => whnf
  (repeat (first | (refine Cond.tt rfl ?_; conv => whnf) | (refine Cond.ff rfl ?_; conv => whnf) | (refine Pick.tt rfl ?_; conv => whnf) | (refine Pick.ff rfl ?_; conv => whnf) | (refine Need.mk (by decide) ?_; conv => whnf)))
  obtain ⟨h31, l31, s31, o31, d31, e1, e2, e3, e4, e5, hh31, hl31, hs31, hd31, q31⟩ := mul_step ha3 hb1 hs22 hd30
  rw [e1, e2]
  refine Called.mk _ _ (plus_ret _ _ _ hs22 hl31 hd30) ?_
  conv => whnf
  (repeat (first | (refine Cond.tt rfl ?_; conv => whnf) | (refine Cond.ff rfl ?_; conv => whnf) | (refine Pick.tt rfl ?_; conv => whnf) | (refine Pick.ff rfl ?_; conv => whnf) | (refine Need.mk (by decide) ?_; conv => whnf)))
  rw [e3, e4, e5]
  clear e1 e2 e3 e4 e5
  apply hs3
  conv => whnf
  (repeat (first | (refine Cond.tt rfl ?_; conv => whnf) | (refine Cond.ff rfl ?_; conv => whnf) | (refine Pick.tt rfl ?_; conv => whnf) | (refine Pick.ff rfl ?_; conv => whnf) | (refine Need.mk (by decide) ?_; conv => whnf)))
  refine Called.mk _ _ (half_ret _ _ ha3 hb2) ?_
  conv => whnf
  (repeat (first | (refine Cond.tt rfl ?_; conv => whnf) | (refine Cond.ff rfl ?_; conv => whnf) | (refine Pick.tt rfl ?_; conv => whnf) | (refine Pick.ff rfl ?_; conv => whnf) | (refine Need.mk (by decide) ?_; conv => whnf)))
  obtain ⟨h32, l32, s32, o32, d32, e1, e2, e3, e4, e5, hh32, hl32, hs32, hd32, q32⟩ := mul_step ha3 hb2 hs23 hd31
  rw [e1, e2]
  refine Called.mk _ _ (plus_ret _ _ _ hs23 hl32 hd31) ?_
  conv => whnf
  (repeat (first | (refine Cond.tt rfl ?_; conv => whnf) | (refine Cond.ff rfl ?_; conv => whnf) | (refine Pick.tt rfl ?_; conv => whnf) | (refine Pick.ff rfl ?_; conv => whnf) | (refine Need.mk (by decide) ?_; conv => whnf)))
  rw [e3, e4, e5]
  clear e1 e2 e3 e4 e5
  apply hs3
  conv => whnf
  (repeat (first | (refine Cond.tt rfl ?_; conv => whnf) | (refine Cond.ff rfl ?_; conv => whnf) | (refine Pick.tt rfl ?_; conv => whnf) | (refine Pick.ff rfl ?_; conv => whnf) | (refine Need.mk (by decide) ?_; conv => whnf)))
  refine Called.mk _ _ (half_ret _ _ ha3 hb3) ?_
  conv => whnf
  (repeat (first | (refine Cond.tt rfl ?_; conv => whnf) | (refine Cond.ff rfl ?_; conv => whnf) | (refine Pick.tt rfl ?_; conv => whnf) | (refine Pick.ff rfl ?_; conv => whnf) | (refine Need.mk (by decide) ?_; conv => whnf)))
  obtain ⟨h33, l33, s33, o33, d33, e1, e2, e3, e4, e5, hh33, hl33, hs33, hd33, q33⟩ := mul_step ha3 hb3 hd23 hd32
  rw [e1, e2]
  refine Called.mk _ _ (plus_ret _ _ _ hd23 hl33 hd32) ?_
  conv => whnf
  (repeat (first | (refine Cond.tt rfl ?_; conv => whnf) | (refine Cond.ff rfl ?_; conv => whnf) | (refine Pick.tt rfl ?_; conv => whnf) | (refine Pick.ff rfl ?_; conv => whnf) | (refine Need.mk (by decide) ?_; conv => whnf)))
  rw [e3, e4, e5]
  clear e1 e2 e3 e4 e5
  apply hs3
  conv => whnf
  (repeat (first | (refine Cond.tt rfl ?_; conv => whnf) | (refine Cond.ff rfl ?_; conv => whnf) | (refine Pick.tt rfl ?_; conv => whnf) | (refine Pick.ff rfl ?_; conv => whnf) | (refine Need.mk (by decide) ?_; conv => whnf)))
  clear hs3 hw3
  apply hs
  conv => whnf
  (repeat (first | (refine Cond.tt rfl ?_; conv => whnf) | (refine Cond.ff rfl ?_; conv => whnf) | (refine Pick.tt rfl ?_; conv => whnf) | (refine Pick.ff rfl ?_; conv => whnf) | (refine Need.mk (by decide) ?_; conv => whnf)))
  clear hs hw
  have hprod : val4 a0 a1 a2 a3 * val4 b0 b1 b2 b3 = val4 s00 s10 s20 s30 + B4 * val4 s31 s32 s33 d33 := by
    rw [mul_all]
    clear ha0 ha1 ha2 ha3 hb0 hb1 hb2 hb3
    unfold val4 B4
    generalize a0 * b0 = p00 at *
    generalize a0 * b1 = p01 at *
    generalize a0 * b2 = p02 at *
    generalize a0 * b3 = p03 at *
    generalize a1 * b0 = p10 at *
    generalize a1 * b1 = p11 at *
    generalize a1 * b2 = p12 at *
    generalize a1 * b3 = p13 at *
    generalize a2 * b0 = p20 at *
    generalize a2 * b1 = p21 at *
    generalize a2 * b2 = p22 at *
    generalize a2 * b3 = p23 at *
    generalize a3 * b0 = p30 at *
    generalize a3 * b1 = p31 at *
    generalize a3 * b2 = p32 at *
    generalize a3 * b3 = p33 at *
    clear hz hh00 hl00 hs00 hd00 hh01 hl01 hs01 hd01 hh02 hl02 hs02 hd02 hh03 hl03 hs03 hd03 hh10 hl10 hs10 hd10 hh11 hl11 hs11 hd11 hh12 hl12 hs12 hd12 hh13 hl13 hs13 hd13 hh20 hl20 hs20 hd20 hh21 hl21 hs21 hd21 hh22 hl22 hs22 hd22 hh23 hl23 hs23 hd23 hh30 hl30 hs30 hd30 hh31 hl31 hs31 hd31 hh32 hl32 hs32 hd32 hh33 hl33 hs33 hd33
    omega
  have hlow := W_val hs00 hs10 hs20 hs30
  have hhigh := W_val hs31 hs32 hs33 hd33
  refine End.mk (tup_eq (cons_eq (natI_is hs31 hs32 hs33 hd33 ?_) (cons_eq (natI_is hs00 hs10 hs20 hs30 ?_) rfl))) rfl
  · rw [hprod]
    generalize val4 s00 s10 s20 s30 = x at *
    generalize val4 s31 s32 s33 d33 = y at *
    unfold W B4 at *; clear hprod; omega
  · rw [hprod]
    generalize val4 s00 s10 s20 s30 = x at *
    generalize val4 s31 s32 s33 d33 = y at *
    unfold W B4 at *; clear hprod; omega
end Go.Proofs.Ytkglccolonpnlaa

set_option linter.unusedVariables false
set_option linter.unusedSimpArgs false
set_option maxRecDepth 100000
namespace Go.Proofs.Ytkglccolonpnlaa
open Go.AM
end Go.Proofs.Ytkglccolonpnlaa

set_option linter.unusedVariables false
set_option linter.unusedSimpArgs false
set_option maxRecDepth 100000
namespace Go.Proofs.Ytkglccolonpnlaa
open Go.AM
end Go.Proofs.Ytkglccolonpnlaa

set_option linter.unusedVariables false
set_option linter.unusedSimpArgs false
set_option maxRecDepth 100000
namespace Go.Proofs.Ytkglccolonpnlaa
open Go.AM
theorem natI_mk (x : Int) : natI (x % B4) = eN (mkN x) := rfl
theorem mul_W (a b : N) : W (a.v * b.v / B4) := by
  have ha := a.h; have hb := b.h
  have h0 : 0 ≤ a.v * b.v := Int.mul_nonneg ha.1 hb.1
  have h1 : a.v * b.v < B4 * B4 := by
    have := mul_lt (m := B4 - 1) (n := B4 - 1) ha.1 (by have := ha.2; omega) hb.1 (by have := hb.2; omega)
    have h2 : (B4 - 1) * (B4 - 1) < B4 * B4 := by decide
    omega
  exact ⟨Int.ediv_nonneg h0 (by decide), Int.ediv_lt_of_lt_mul (by decide) h1⟩
theorem natI_hi (a b : N) : natI (a.v * b.v / B4) = eN (mkN (a.v * b.v / B4)) := by rw [eN_natI, mkN_v (mul_W a b)]
theorem MulN (a b : N) : Ret Try.prog 98 [eN a, eN b] [] (.tup [eN (mkN (a.v * b.v / B4)), eN (mkN (a.v * b.v))]) [] := by
  have h := Mul_ret a.v b.v a.h b.h
  rwa [natI_mk, natI_hi] at h
def cmpI (a b : Int) : Int := if a < b then -1 else if b < a then 1 else 0
set_option maxRecDepth 100000 in
theorem Cmp_ret (a b : N) : Ret Try.prog 96 [eN a, eN b] [] (.int .i64 (cmpI a.v b.v)) [] := by
  have ea := limbs_v a; have eb := limbs_v b
  have a0 := l0_U a; have a1 := l1_U a; have a2 := l2_U a; have a3 := l3_U a
  have b0 := l0_U b; have b1 := l1_U b; have b2 := l2_U b; have b3 := l3_U b
  refine ret_of_body atNone tok mixed Try.func96 (by kernel_rfl) rfl (k := 24) (rs := [.tmp 4]) (by kernel_rfl) (by kernel_rfl) ?_
  (conv => whnf) <;> repeat' (first | (intro I hw hs; apply hs; conv => whnf) | (apply hs; conv => whnf) | ((first | refine wN ?_ | refine wA ?_ | refine wB ?_ | refine wC ?_ | refine wD ?_); conv => whnf) | ((first | apply Pick.mk | apply Cond.mk) <;> intro h <;> conv => whnf))
  all_goals
    clear hs hw
    refine End.mk (int_eq ?_) rfl
    simp only [bne_iff_ne, bne_eq_false_iff_eq, decide_eq_true_eq, decide_eq_false_iff_not] at *
    rw [ea, eb]
    unfold U at *; unfold cmpI val4
    first
      | (rw [if_pos (by omega)]; done)
      | (rw [if_neg (by omega), if_pos (by omega)]; done)
      | (rw [if_neg (by omega), if_neg (by omega)]; done)
end Go.Proofs.Ytkglccolonpnlaa

set_option linter.unusedVariables false
set_option linter.unusedSimpArgs false
set_option maxRecDepth 100000
namespace Go.Proofs.Ytkglccolonpnlaa
open Go.AM
end Go.Proofs.Ytkglccolonpnlaa

set_option linter.unusedVariables false
set_option linter.unusedSimpArgs false
set_option maxRecDepth 100000
namespace Go.Proofs.Ytkglccolonpnlaa
open Go.AM
theorem Ten_ret (n : Int) (h0 : 0 ≤ n) (h1 : n ≤ 77) : Ret Try.prog 97 [.int .i64 n] [] (.tup [eN (mkN (10 ^ n.toNat)), .bool true]) [] := by
  refine ret_of_body atNone tok mixed Try.func97 (by kernel_rfl) rfl (k := 24) (rs := [.cell 2 24, .tmp 3]) (by kernel_rfl) (by kernel_rfl) ?_
  (conv => whnf) <;> repeat' (first | ((first | refine wN ?_ | refine wA ?_ | refine wB ?_ | refine wC ?_ | refine wD ?_ | refine Called.mk _ _ (From_ret _ (by decide)) ?_); conv => whnf) | ((first | apply Pick.mk | apply Cond.mk) <;> intro h <;> conv => whnf))
  · rw [decF (by omega)] at h; cases h
  · simp at h; omega
  intro I hw hs
  have key : ∀ (k : Nat) (i : Int), 0 ≤ i → i + k = n → I [.und, .und, .ptr 0 0, .und, .ptr 1 0, .und, .und, .und, .und, .und, .und, .und, .und, .int .i64 n, .int .i64 i, .und, .und, .und, .und, .und, .und, .und, .und, .und] [.cells (cN N0), .cells (cN (mkN (10 ^ i.toNat)))] := by
    intro k
    induction k with
    | zero =>
      intro i hi hin
      apply hs
      conv => whnf
      refine Cond.ff (decF (by omega)) ?_
      (conv => whnf) <;> repeat' (first | ((first | refine wN ?_ | refine wA ?_ | refine wB ?_ | refine wC ?_ | refine wD ?_); conv => whnf) | ((first | apply Pick.mk | apply Cond.mk) <;> intro h <;> conv => whnf))
      obtain rfl : i = n := by omega
      exact End.mk rfl rfl
    | succ k ih =>
      intro i hi hin
      apply hs
      conv => whnf
      refine Cond.tt (decT (by omega)) ?_
      (conv => whnf) <;> repeat' (first | ((first | refine wN ?_ | refine wA ?_ | refine wB ?_ | refine wC ?_ | refine wD ?_ | refine Called.mk _ _ (From_ret _ (by decide)) ?_ | refine Called.mk _ _ (MulN (mkN (10 ^ i.toNat)) (mkN 10)) ?_); conv => whnf) | ((first | apply Pick.mk | apply Cond.mk) <;> intro h <;> conv => whnf))
      rw [ten_step hi (by omega), wi64_id (n := i + 1) (by omega) (by omega)]
      apply hw [0, 1] [false, false, true, false, true, false, false, false, false, false, false, false, false, true, true] _ _ (by decide)
      exact ih (i + 1) (by omega) (by omega)
  apply hw [0, 1] [false, false, true, false, true, false, false, false, false, false, false, false, false, true, true] _ _ (by decide)
  exact key n.toNat 0 (by omega) (by omega)
end Go.Proofs.Ytkglccolonpnlaa

