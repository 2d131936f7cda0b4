/- limb and exciseref01: From, Add, Sub. -/
import Derived.Test.YtafiechoplbieaaAmA0
import Derived.Test.YtafiechoplbieaaAmLib
set_option linter.unusedVariables false
set_option linter.unusedSimpArgs false
set_option maxRecDepth 100000
namespace Go.Proofs.Ytafiechoplbieaa
open Go.AM
theorem From_ret (u : Int) (hu : U u) : Ret Try.prog 96 [.int .u64 u] [] (eN (mkN u)) [] := by
  refine ret_of_body atCalls tok mixed Try.func96 (by kernel_rfl) rfl (k := 5) (rs := [.cell 2 38]) (by kernel_rfl) (by kernel_rfl) ?_
  (conv => whnf) <;> repeat' (first | ((first | refine wN ?_ | refine wNc ?_ | refine wA ?_ | refine wB ?_ | refine wC ?_ | refine wD ?_); conv => whnf) | ((first | apply Pick.mk | apply Cond.mk) <;> intro h <;> conv => whnf))
  refine End.mk (eN_is hu (by decide) (by decide) (by decide) ?_) rfl
  unfold U at hu; unfold val4 B4; omega
theorem rFrom_ret (u : Int) (hu : U u) : Ret Try.prog 72 [.int .u64 u] [] (eN (mkN u)) [] := by
  refine ret_of_body atCalls tok mixed Try.func72 (by kernel_rfl) rfl (k := 5) (rs := [.cell 2 38]) (by kernel_rfl) (by kernel_rfl) ?_
  (conv => whnf) <;> repeat' (first | ((first | refine wN ?_ | refine wNc ?_ | refine wA ?_ | refine wB ?_ | refine wC ?_ | refine wD ?_); conv => whnf) | ((first | apply Pick.mk | apply Cond.mk) <;> intro h <;> conv => whnf))
  refine End.mk (eN_is hu (by decide) (by decide) (by decide) ?_) rfl
  unfold U at hu; unfold val4 B4; omega
end Go.Proofs.Ytafiechoplbieaa

set_option linter.unusedVariables false
set_option linter.unusedSimpArgs false
set_option maxRecDepth 100000
namespace Go.Proofs.Ytafiechoplbieaa
open Go.AM
theorem mul_all {a0 a1 a2 a3 b0 b1 b2 b3 : Int} : val4 a0 a1 a2 a3 * val4 b0 b1 b2 b3 = val4 (val4 (a0 * b0) (a0 * b1) (a0 * b2) (a0 * b3)) (val4 (a1 * b0) (a1 * b1) (a1 * b2) (a1 * b3)) (val4 (a2 * b0) (a2 * b1) (a2 * b2) (a2 * b3)) (val4 (a3 * b0) (a3 * b1) (a3 * b2) (a3 * b3)) := by
  rw [val4_mul, mul_val4, mul_val4, mul_val4, mul_val4]
set_option maxRecDepth 100000 in
theorem Mul_ret (a b : Int) (ha : W a) (hb : W b) : Ret Try.prog 90 [natI a, natI b] [] (.tup [natI (a * b / B4), natI (a * b % B4)]) [] := by
  obtain ⟨a0, a1, a2, a3, ha0, ha1, ha2, ha3, rfl⟩ := W_limbs ha
  obtain ⟨b0, b1, b2, b3, hb0, hb1, hb2, hb3, rfl⟩ := W_limbs hb
  rw [natI_val ha0 ha1 ha2 ha3, natI_val hb0 hb1 hb2 hb3]
  clear ha hb
  have hz : U 0 := by unfold U; decide
  refine ret_of_body atNone tok mixed Try.func90 (by kernel_rfl) rfl (k := 61) (rs := [.cell 4 38, .cell 5 38]) (by kernel_rfl) (by kernel_rfl) ?_
  conv => whnf
  (repeat (first | (refine Cond.tt rfl ?_; conv => whnf) | (refine Cond.ff rfl ?_; conv => whnf) | (refine Pick.tt rfl ?_; conv => whnf) | (refine Pick.ff rfl ?_; conv => whnf) | (refine Need.mk (by decide) ?_; conv => whnf)))
  intro I hw hs
  apply hs
  conv => whnf
  (repeat (first | (refine Cond.tt rfl ?_; conv => whnf) | (refine Cond.ff rfl ?_; conv => whnf) | (refine Pick.tt rfl ?_; conv => whnf) | (refine Pick.ff rfl ?_; conv => whnf) | (refine Need.mk (by decide) ?_; conv => whnf)))
  intro I0 hw0 hs0
  apply hs0
  conv => whnf
  (repeat (first | (refine Cond.tt rfl ?_; conv => whnf) | (refine Cond.ff rfl ?_; conv => whnf) | (refine Pick.tt rfl ?_; conv => whnf) | (refine Pick.ff rfl ?_; conv => whnf) | (refine Need.mk (by decide) ?_; conv => whnf)))
  refine Called.mk _ _ (half_ret _ _ ha0 hb0) ?_
  conv => whnf
  (repeat (first | (refine Cond.tt rfl ?_; conv => whnf) | (refine Cond.ff rfl ?_; conv => whnf) | (refine Pick.tt rfl ?_; conv => whnf) | (refine Pick.ff rfl ?_; conv => whnf) | (refine Need.mk (by decide) ?_; conv => whnf)))
  obtain ⟨h00, l00, s00, o00, d00, e1, e2, e3, e4, e5, hh00, hl00, hs00, hd00, q00⟩ := mul_step ha0 hb0 hz hz
  rw [e1, e2]
  refine Called.mk _ _ (plus_ret _ _ _ hz hl00 hz) ?_
  conv => whnf
  (repeat (first | (refine Cond.tt rfl ?_; conv => whnf) | (refine Cond.ff rfl ?_; conv => whnf) | (refine Pick.tt rfl ?_; conv => whnf) | (refine Pick.ff rfl ?_; conv => whnf) | (refine Need.mk (by decide) ?_; conv => whnf)))
  rw [e3, e4, e5]
  clear e1 e2 e3 e4 e5
  apply hs0
  conv => whnf
  (repeat (first | (refine Cond.tt rfl ?_; conv => whnf) | (refine Cond.ff rfl ?_; conv => whnf) | (refine Pick.tt rfl ?_; conv => whnf) | (refine Pick.ff rfl ?_; conv => whnf) | (refine Need.mk (by decide) ?_; conv => whnf)))
  refine Called.mk _ _ (half_ret _ _ ha0 hb1) ?_
  conv => whnf
  (repeat (first | (refine Cond.tt rfl ?_; conv => whnf) | (refine Cond.ff rfl ?_; conv => whnf) | (refine Pick.tt rfl ?_; conv => whnf) | (refine Pick.ff rfl ?_; conv => whnf) | (refine Need.mk (by decide) ?_; conv => whnf)))
  obtain ⟨h01, l01, s01, o01, d01, e1, e2, e3, e4, e5, hh01, hl01, hs01, hd01, q01⟩ := mul_step ha0 hb1 hz hd00
  rw [e1, e2]
  refine Called.mk _ _ (plus_ret _ _ _ hz hl01 hd00) ?_
  conv => whnf
  (repeat (first | (refine Cond.tt rfl ?_; conv => whnf) | (refine Cond.ff rfl ?_; conv => whnf) | (refine Pick.tt rfl ?_; conv => whnf) | (refine Pick.ff rfl ?_; conv => whnf) | (refine Need.mk (by decide) ?_; conv => whnf)))
  rw [e3, e4, e5]
  clear e1 e2 e3 e4 e5
  apply hs0
  conv => whnf
  (repeat (first | (refine Cond.tt rfl ?_; conv => whnf) | (refine Cond.ff rfl ?_; conv => whnf) | (refine Pick.tt rfl ?_; conv => whnf) | (refine Pick.ff rfl ?_; conv => whnf) | (refine Need.mk (by decide) ?_; conv => whnf)))
  refine Called.mk _ _ (half_ret _ _ ha0 hb2) ?_
  conv => whnf
  (repeat (first | (refine Cond.tt rfl ?_; conv => whnf) | (refine Cond.ff rfl ?_; conv => whnf) | (refine Pick.tt rfl ?_; conv => whnf) | (refine Pick.ff rfl ?_; conv => whnf) | (refine Need.mk (by decide) ?_; conv => whnf)))
  obtain ⟨h02, l02, s02, o02, d02, e1, e2, e3, e4, e5, hh02, hl02, hs02, hd02, q02⟩ := mul_step ha0 hb2 hz hd01
  rw [e1, e2]
  refine Called.mk _ _ (plus_ret _ _ _ hz hl02 hd01) ?_
  conv => whnf
  (repeat (first | (refine Cond.tt rfl ?_; conv => whnf) | (refine Cond.ff rfl ?_; conv => whnf) | (refine Pick.tt rfl ?_; conv => whnf) | (refine Pick.ff rfl ?_; conv => whnf) | (refine Need.mk (by decide) ?_; conv => whnf)))
  rw [e3, e4, e5]
  clear e1 e2 e3 e4 e5
  apply hs0
  conv => whnf
  (repeat (first | (refine Cond.tt rfl ?_; conv => whnf) | (refine Cond.ff rfl ?_; conv => whnf) | (refine Pick.tt rfl ?_; conv => whnf) | (refine Pick.ff rfl ?_; conv => whnf) | (refine Need.mk (by decide) ?_; conv => whnf)))
  refine Called.mk _ _ (half_ret _ _ ha0 hb3) ?_
  conv => whnf
  (repeat (first | (refine Cond.tt rfl ?_; conv => whnf) | (refine Cond.ff rfl ?_; conv => whnf) | (refine Pick.tt rfl ?_; conv => whnf) | (refine Pick.ff rfl ?_; conv => whnf) | (refine Need.mk (by decide) ?_; conv => whnf)))
  obtain ⟨h03, l03, s03, o03, d03, e1, e2, e3, e4, e5, hh03, hl03, hs03, hd03, q03⟩ := mul_step ha0 hb3 hz hd02
  rw [e1, e2]
  refine Called.mk _ _ (plus_ret _ _ _ hz hl03 hd02) ?_
  conv => whnf
  (repeat (first | (refine Cond.tt rfl ?_; conv => whnf) | (refine Cond.ff rfl ?_; conv => whnf) | (refine Pick.tt rfl ?_; conv => whnf) | (refine Pick.ff rfl ?_; conv => whnf) | (refine Need.mk (by decide) ?_; conv => whnf)))
  rw [e3, e4, e5]
  clear e1 e2 e3 e4 e5
  apply hs0
  conv => whnf
  (repeat (first | (refine Cond.tt rfl ?_; conv => whnf) | (refine Cond.ff rfl ?_; conv => whnf) | (refine Pick.tt rfl ?_; conv => whnf) | (refine Pick.ff rfl ?_; conv => whnf) | (refine Need.mk (by decide) ?_; conv => whnf)))
  clear hs0 hw0
  apply hs
  conv => whnf
  (repeat (first | (refine Cond.tt rfl ?_; conv => whnf) | (refine Cond.ff rfl ?_; conv => whnf) | (refine Pick.tt rfl ?_; conv => whnf) | (refine Pick.ff rfl ?_; conv => whnf) | (refine Need.mk (by decide) ?_; conv => whnf)))
  intro I1 hw1 hs1
  apply hs1
  conv => whnf
  (repeat (first | (refine Cond.tt rfl ?_; conv => whnf) | (refine Cond.ff rfl ?_; conv => whnf) | (refine Pick.tt rfl ?_; conv => whnf) | (refine Pick.ff rfl ?_; conv => whnf) | (refine Need.mk (by decide) ?_; conv => whnf)))
  refine Called.mk _ _ (half_ret _ _ ha1 hb0) ?_
  conv => whnf
  (repeat (first | (refine Cond.tt rfl ?_; conv => whnf) | (refine Cond.ff rfl ?_; conv => whnf) | (refine Pick.tt rfl ?_; conv => whnf) | (refine Pick.ff rfl ?_; conv => whnf) | (refine Need.mk (by decide) ?_; conv => whnf)))
  obtain ⟨h10, l10, s10, o10, d10, e1, e2, e3, e4, e5, hh10, hl10, hs10, hd10, q10⟩ := mul_step ha1 hb0 hs01 hz
  rw [e1, e2]
  refine Called.mk _ _ (plus_ret _ _ _ hs01 hl10 hz) ?_
  conv => whnf
  (repeat (first | (refine Cond.tt rfl ?_; conv => whnf) | (refine Cond.ff rfl ?_; conv => whnf) | (refine Pick.tt rfl ?_; conv => whnf) | (refine Pick.ff rfl ?_; conv => whnf) | (refine Need.mk (by decide) ?_; conv => whnf)))
  rw [e3, e4, e5]
  clear e1 e2 e3 e4 e5
  apply hs1
  conv => whnf
  (repeat (first | (refine Cond.tt rfl ?_; conv => whnf) | (refine Cond.ff rfl ?_; conv => whnf) | (refine Pick.tt rfl ?_; conv => whnf) | (refine Pick.ff rfl ?_; conv => whnf) | (refine Need.mk (by decide) ?_; conv => whnf)))
  refine Called.mk _ _ (half_ret _ _ ha1 hb1) ?_
  conv => whnf
  (repeat (first | (refine Cond.tt rfl ?_; conv => whnf) | (refine Cond.ff rfl ?_; conv => whnf) | (refine Pick.tt rfl ?_; conv => whnf) | (refine Pick.ff rfl ?_; conv => whnf) | (refine Need.mk (by decide) ?_; conv => whnf)))
  obtain ⟨h11, l11, s11, o11, d11, e1, e2, e3, e4, e5, hh11, hl11, hs11, hd11, q11⟩ := mul_step ha1 hb1 hs02 hd10
  rw [e1, e2]
  refine Called.mk _ _ (plus_ret _ _ _ hs02 hl11 hd10) ?_
  conv => whnf
  (repeat (first | (refine Cond.tt rfl ?_; conv => whnf) | (refine Cond.ff rfl ?_; conv => whnf) | (refine Pick.tt rfl ?_; conv => whnf) | (refine Pick.ff rfl ?_; conv => whnf) | (refine Need.mk (by decide) ?_; conv => whnf)))
  rw [e3, e4, e5]
  clear e1 e2 e3 e4 e5
  apply hs1
  conv => whnf
  (repeat (first | (refine Cond.tt rfl ?_; conv => whnf) | (refine Cond.ff rfl ?_; conv => whnf) | (refine Pick.tt rfl ?_; conv => whnf) | (refine Pick.ff rfl ?_; conv => whnf) | (refine Need.mk (by decide) ?_; conv => whnf)))
  refine Called.mk _ _ (half_ret _ _ ha1 hb2) ?_
  conv => whnf
  (repeat (first | (refine Cond.tt rfl ?_; conv => whnf) | (refine Cond.ff rfl ?_; conv => whnf) | (refine Pick.tt rfl ?_; conv => whnf) | (refine Pick.ff rfl ?_; conv => whnf) | (refine Need.mk (by decide) ?_; conv => whnf)))
  obtain ⟨h12, l12, s12, o12, d12, e1, e2, e3, e4, e5, hh12, hl12, hs12, hd12, q12⟩ := mul_step ha1 hb2 hs03 hd11
  rw [e1, e2]
  refine Called.mk _ _ (plus_ret _ _ _ hs03 hl12 hd11) ?_
  conv => whnf
  (repeat (first | (refine Cond.tt rfl ?_; conv => whnf) | (refine Cond.ff rfl ?_; conv => whnf) | (refine Pick.tt rfl ?_; conv => whnf) | (refine Pick.ff rfl ?_; conv => whnf) | (refine Need.mk (by decide) ?_; conv => whnf)))
  rw [e3, e4, e5]
  clear e1 e2 e3 e4 e5
  apply hs1
  conv => whnf
  (repeat (first | (refine Cond.tt rfl ?_; conv => whnf) | (refine Cond.ff rfl ?_; conv => whnf) | (refine Pick.tt rfl ?_; conv => whnf) | (refine Pick.ff rfl ?_; conv => whnf) | (refine Need.mk (by decide) ?_; conv => whnf)))
  refine Called.mk _ _ (half_ret _ _ ha1 hb3) ?_
  conv => whnf
  (repeat (first | (refine Cond.tt rfl ?_; conv => whnf) | (refine Cond.ff rfl ?_; conv => whnf) | (refine Pick.tt rfl ?_; conv => whnf) | (refine Pick.ff rfl ?_; conv => whnf) | (refine Need.mk (by decide) ?_; conv => whnf)))
  obtain ⟨h13, l13, s13, o13, d13, e1, e2, e3, e4, e5, hh13, hl13, hs13, hd13, q13⟩ := mul_step ha1 hb3 hd03 hd12
  rw [e1, e2]
  refine Called.mk _ _ (plus_ret _ _ _ hd03 hl13 hd12) ?_
  conv => whnf
  (repeat (first | (refine Cond.tt rfl ?_; conv => whnf) | (refine Cond.ff rfl ?_; conv => whnf) | (refine Pick.tt rfl ?_; conv => whnf) | (refine Pick.ff rfl ?_; conv => whnf) | (refine Need.mk (by decide) ?_; conv => whnf)))
  rw [e3, e4, e5]
  clear e1 e2 e3 e4 e5
  apply hs1
  conv => whnf
  (repeat (first | (refine Cond.tt rfl ?_; conv => whnf) | (refine Cond.ff rfl ?_; conv => whnf) | (refine Pick.tt rfl ?_; conv => whnf) | (refine Pick.ff rfl ?_; conv => whnf) | (refine Need.mk (by decide) ?_; conv => whnf)))
  clear hs1 hw1
  apply hs
  conv => whnf
  (repeat (first | (refine Cond.tt rfl ?_; conv => whnf) | (refine Cond.ff rfl ?_; conv => whnf) | (refine Pick.tt rfl ?_; conv => whnf) | (refine Pick.ff rfl ?_; conv => whnf) | (refine Need.mk (by decide) ?_; conv => whnf)))
  intro I2 hw2 hs2
  apply hs2
  conv => whnf
  (repeat (first | (refine Cond.tt rfl ?_; conv => whnf) | (refine Cond.ff rfl ?_; conv => whnf) | (refine Pick.tt rfl ?_; conv => whnf) | (refine Pick.ff rfl ?_; conv => whnf) | (refine Need.mk (by decide) ?_; conv => whnf)))
  refine Called.mk _ _ (half_ret _ _ ha2 hb0) ?_
  conv => whnf
  (repeat (first | (refine Cond.tt rfl ?_; conv => whnf) | (refine Cond.ff rfl ?_; conv => whnf) | (refine Pick.tt rfl ?_; conv => whnf) | (refine Pick.ff rfl ?_; conv => whnf) | (refine Need.mk (by decide) ?_; conv => whnf)))
  obtain ⟨h20, l20, s20, o20, d20, e1, e2, e3, e4, e5, hh20, hl20, hs20, hd20, q20⟩ := mul_step ha2 hb0 hs11 hz
  rw [e1, e2]
  refine Called.mk _ _ (plus_ret _ _ _ hs11 hl20 hz) ?_
  conv => whnf
  (repeat (first | (refine Cond.tt rfl ?_; conv => whnf) | (refine Cond.ff rfl ?_; conv => whnf) | (refine Pick.tt rfl ?_; conv => whnf) | (refine Pick.ff rfl ?_; conv => whnf) | (refine Need.mk (by decide) ?_; conv => whnf)))
  rw [e3, e4, e5]
  clear e1 e2 e3 e4 e5
  apply hs2
  conv => whnf
  (repeat (first | (refine Cond.tt rfl ?_; conv => whnf) | (refine Cond.ff rfl ?_; conv => whnf) | (refine Pick.tt rfl ?_; conv => whnf) | (refine Pick.ff rfl ?_; conv => whnf) | (refine Need.mk (by decide) ?_; conv => whnf)))
  refine Called.mk _ _ (half_ret _ _ ha2 hb1) ?_
  conv => whnf
  (repeat (first | (refine Cond.tt rfl ?_; conv => whnf) | (refine Cond.ff rfl ?_; conv => whnf) | (refine Pick.tt rfl ?_; conv => whnf) | (refine Pick.ff rfl ?_; conv => whnf) | (refine Need.mk (by decide) ?_; conv => whnf)))
  obtain ⟨h21, l21, s21, o21, d21, e1, e2, e3, e4, e5, hh21, hl21, hs21, hd21, q21⟩ := mul_step ha2 hb1 hs12 hd20
  rw [e1, e2]
  refine Called.mk _ _ (plus_ret _ _ _ hs12 hl21 hd20) ?_
  conv => whnf
  (repeat (first | (refine Cond.tt rfl ?_; conv => whnf) | (refine Cond.ff rfl ?_; conv => whnf) | (refine Pick.tt rfl ?_; conv => whnf) | (refine Pick.ff rfl ?_; conv => whnf) | (refine Need.mk (by decide) ?_; conv => whnf)))
  rw [e3, e4, e5]
  clear e1 e2 e3 e4 e5
  apply hs2
  conv => whnf
  (repeat (first | (refine Cond.tt rfl ?_; conv => whnf) | (refine Cond.ff rfl ?_; conv => whnf) | (refine Pick.tt rfl ?_; conv => whnf) | (refine Pick.ff rfl ?_; conv => whnf) | (refine Need.mk (by decide) ?_; conv => whnf)))
  refine Called.mk _ _ (half_ret _ _ ha2 hb2) ?_
  conv => whnf
  (repeat (first | (refine Cond.tt rfl ?_; conv => whnf) | (refine Cond.ff rfl ?_; conv => whnf) | (refine Pick.tt rfl ?_; conv => whnf) | (refine Pick.ff rfl ?_; conv => whnf) | (refine Need.mk (by decide) ?_; conv => whnf)))
  obtain ⟨h22, l22, s22, o22, d22, e1, e2, e3, e4, e5, hh22, hl22, hs22, hd22, q22⟩ := mul_step ha2 hb2 hs13 hd21
  rw [e1, e2]
  refine Called.mk _ _ (plus_ret _ _ _ hs13 hl22 hd21) ?_
  conv => whnf
  (repeat (first | (refine Cond.tt rfl ?_; conv => whnf) | (refine Cond.ff rfl ?_; conv => whnf) | (refine Pick.tt rfl ?_; conv => whnf) | (refine Pick.ff rfl ?_; conv => whnf) | (refine Need.mk (by decide) ?_; conv => whnf)))
  rw [e3, e4, e5]
  clear e1 e2 e3 e4 e5
  apply hs2
  conv => whnf
  (repeat (first | (refine Cond.tt rfl ?_; conv => whnf) | (refine Cond.ff rfl ?_; conv => whnf) | (refine Pick.tt rfl ?_; conv => whnf) | (refine Pick.ff rfl ?_; conv => whnf) | (refine Need.mk (by decide) ?_; conv => whnf)))
  refine Called.mk _ _ (half_ret _ _ ha2 hb3) ?_
  conv => whnf
  (repeat (first | (refine Cond.tt rfl ?_; conv => whnf) | (refine Cond.ff rfl ?_; conv => whnf) | (refine Pick.tt rfl ?_; conv => whnf) | (refine Pick.ff rfl ?_; conv => whnf) | (refine Need.mk (by decide) ?_; conv => whnf)))
  obtain ⟨h23, l23, s23, o23, d23, e1, e2, e3, e4, e5, hh23, hl23, hs23, hd23, q23⟩ := mul_step ha2 hb3 hd13 hd22
  rw [e1, e2]
  refine Called.mk _ _ (plus_ret _ _ _ hd13 hl23 hd22) ?_
  conv => whnf
  (repeat (first | (refine Cond.tt rfl ?_; conv => whnf) | (refine Cond.ff rfl ?_; conv => whnf) | (refine Pick.tt rfl ?_; conv => whnf) | (refine Pick.ff rfl ?_; conv => whnf) | (refine Need.mk (by decide) ?_; conv => whnf)))
  rw [e3, e4, e5]
  clear e1 e2 e3 e4 e5
  apply hs2
  conv => whnf
  (repeat (first | (refine Cond.tt rfl ?_; conv => whnf) | (refine Cond.ff rfl ?_; conv => whnf) | (refine Pick.tt rfl ?_; conv => whnf) | (refine Pick.ff rfl ?_; conv => whnf) | (refine Need.mk (by decide) ?_; conv => whnf)))
  clear hs2 hw2
  apply hs
  conv => whnf
  (repeat (first | (refine Cond.tt rfl ?_; conv => whnf) | (refine Cond.ff rfl ?_; conv => whnf) | (refine Pick.tt rfl ?_; conv => whnf) | (refine Pick.ff rfl ?_; conv => whnf) | (refine Need.mk (by decide) ?_; conv => whnf)))
  intro I3 hw3 hs3
  apply hs3
  conv => whnf
  (repeat (first | (refine Cond.tt rfl ?_; conv => whnf) | (refine Cond.ff rfl ?_; conv => whnf) | (refine Pick.tt rfl ?_; conv => whnf) | (refine Pick.ff rfl ?_; conv => whnf) | (refine Need.mk (by decide) ?_; conv => whnf)))
  refine Called.mk _ _ (half_ret _ _ ha3 hb0) ?_
  conv => whnf
  (repeat (first | (refine Cond.tt rfl ?_; conv => whnf) | (refine Cond.ff rfl ?_; conv => whnf) | (refine Pick.tt rfl ?_; conv => whnf) | (refine Pick.ff rfl ?_; conv => whnf) | (refine Need.mk (by decide) ?_; conv => whnf)))
  obtain ⟨h30, l30, s30, o30, d30, e1, e2, e3, e4, e5, hh30, hl30, hs30, hd30, q30⟩ := mul_step ha3 hb0 hs21 hz
  rw [e1, e2]
  refine Called.mk _ _ (plus_ret _ _ _ hs21 hl30 hz) ?_
  conv => whnf
  (repeat (first | (refine Cond.tt rfl ?_; conv => whnf) | (refine Cond.ff rfl ?_; conv => whnf) | (refine Pick.tt rfl ?_; conv => whnf) | (refine Pick.ff rfl ?_; conv => whnf) | (refine Need.mk (by decide) ?_; conv => whnf)))
  rw [e3, e4, e5]
  clear e1 e2 e3 e4 e5
  apply hs3
  conv => whnf
  (repeat (first | (refine Cond.tt rfl ?_; conv => whnf) | (refine Cond.ff rfl ?_; conv => whnf) | (refine Pick.tt rfl ?_; conv => whnf) | (refine Pick.ff rfl ?_; conv => whnf) | (refine Need.mk (by decide) ?_; conv => whnf)))
  refine Called.mk _ _ (half_ret _ _ ha3 hb1) ?_
  conv => whnf
  (repeat (first | (refine Cond.tt rfl ?_; conv => whnf) | (refine Cond.ff rfl ?_; conv => whnf) | (refine Pick.tt rfl ?_; conv => whnf) | (refine Pick.ff rfl ?_; conv => whnf) | (refine Need.mk (by decide) ?_; conv => whnf)))
  obtain ⟨h31, l31, s31, o31, d31, e1, e2, e3, e4, e5, hh31, hl31, hs31, hd31, q31⟩ := mul_step ha3 hb1 hs22 hd30
  rw [e1, e2]
  refine Called.mk _ _ (plus_ret _ _ _ hs22 hl31 hd30) ?_
  conv => whnf
  (repeat (first | (refine Cond.tt rfl ?_; conv => whnf) | (refine Cond.ff rfl ?_; conv => whnf) | (refine Pick.tt rfl ?_; conv => whnf) | (refine Pick.ff rfl ?_; conv => whnf) | (refine Need.mk (by decide) ?_; conv => whnf)))
  rw [e3, e4, e5]
  clear e1 e2 e3 e4 e5
  apply hs3
  conv => whnf
  (repeat (first | (refine Cond.tt rfl ?_; conv => whnf) | (refine Cond.ff rfl ?_; conv => whnf) | (refine Pick.tt rfl ?_; conv => whnf) | (refine Pick.ff rfl ?_; conv => whnf) | (refine Need.mk (by decide) ?_; conv => whnf)))
  refine Called.mk _ _ (half_ret _ _ ha3 hb2) ?_
  conv => whnf
  (repeat (first | (refine Cond.tt rfl ?_; conv => whnf) | (refine Cond.ff rfl ?_; conv => whnf) | (refine Pick.tt rfl ?_; conv => whnf) | (refine Pick.ff rfl ?_; conv => whnf) | (refine Need.mk (by decide) ?_; conv => whnf)))
  obtain ⟨h32, l32, s32, o32, d32, e1, e2, e3, e4, e5, hh32, hl32, hs32, hd32, q32⟩ := mul_step ha3 hb2 hs23 hd31
  rw [e1, e2]
  refine Called.mk _ _ (plus_ret _ _ _ hs23 hl32 hd31) ?_
  conv => whnf
  (repeat (first | (refine Cond.tt rfl ?_; conv => whnf) | (refine Cond.ff rfl ?_; conv => whnf) | (refine Pick.tt rfl ?_; conv => whnf) | (refine Pick.ff rfl ?_; conv => whnf) | (refine Need.mk (by decide) ?_; conv => whnf)))
  rw [e3, e4, e5]
  clear e1 e2 e3 e4 e5
  apply hs3
  conv => whnf
  (repeat (first | (refine Cond.tt rfl ?_; conv => whnf) | (refine Cond.ff rfl ?_; conv => whnf) | (refine Pick.tt rfl ?_; conv => whnf) | (refine Pick.ff rfl ?_; conv => whnf) | (refine Need.mk (by decide) ?_; conv => whnf)))
  refine Called.mk _ _ (half_ret _ _ ha3 hb3) ?_
  conv => whnf
  (repeat (first | (refine Cond.tt rfl ?_; conv => whnf) | (refine Cond.ff rfl ?_; conv => whnf) | (refine Pick.tt rfl ?_; conv => whnf) | (refine Pick.ff rfl ?_; conv => whnf) | (refine Need.mk (by decide) ?_; conv => whnf)))
  obtain ⟨h33, l33, s33, o33, d33, e1, e2, e3, e4, e5, hh33, hl33, hs33, hd33, q33⟩ := mul_step ha3 hb3 hd23 hd32
  rw [e1, e2]
  refine Called.mk _ _ (plus_ret _ _ _ hd23 hl33 hd32) ?_
  conv => whnf
  (repeat (first | (refine Cond.tt rfl ?_; conv => whnf) | (refine Cond.ff rfl ?_; conv => whnf) | (refine Pick.tt rfl ?_; conv => whnf) | (refine Pick.ff rfl ?_; conv => whnf) | (refine Need.mk (by decide) ?_; conv => whnf)))
  rw [e3, e4, e5]
  clear e1 e2 e3 e4 e5
  apply hs3
  conv => whnf
  (repeat (first | (refine Cond.tt rfl ?_; conv => whnf) | (refine Cond.ff rfl ?_; conv => whnf) | (refine Pick.tt rfl ?_; conv => whnf) | (refine Pick.ff rfl ?_; conv => whnf) | (refine Need.mk (by decide) ?_; conv => whnf)))
  clear hs3 hw3
  apply hs
  conv => whnf
  (repeat (first | (refine Cond.tt rfl ?_; conv => whnf) | (refine Cond.ff rfl ?_; conv => whnf) | (refine Pick.tt rfl ?_; conv => whnf) | (refine Pick.ff rfl ?_; conv => whnf) | (refine Need.mk (by decide) ?_; conv => whnf)))
  clear hs hw
  have hprod : val4 a0 a1 a2 a3 * val4 b0 b1 b2 b3 = val4 s00 s10 s20 s30 + B4 * val4 s31 s32 s33 d33 := by
    rw [mul_all]
    clear ha0 ha1 ha2 ha3 hb0 hb1 hb2 hb3
    unfold val4 B4
    generalize a0 * b0 = p00 at *
    generalize a0 * b1 = p01 at *
    generalize a0 * b2 = p02 at *
    generalize a0 * b3 = p03 at *
    generalize a1 * b0 = p10 at *
    generalize a1 * b1 = p11 at *
    generalize a1 * b2 = p12 at *
    generalize a1 * b3 = p13 at *
    generalize a2 * b0 = p20 at *
    generalize a2 * b1 = p21 at *
    generalize a2 * b2 = p22 at *
    generalize a2 * b3 = p23 at *
    generalize a3 * b0 = p30 at *
    generalize a3 * b1 = p31 at *
    generalize a3 * b2 = p32 at *
    generalize a3 * b3 = p33 at *
    clear hz hh00 hl00 hs00 hd00 hh01 hl01 hs01 hd01 hh02 hl02 hs02 hd02 hh03 hl03 hs03 hd03 hh10 hl10 hs10 hd10 hh11 hl11 hs11 hd11 hh12 hl12 hs12 hd12 hh13 hl13 hs13 hd13 hh20 hl20 hs20 hd20 hh21 hl21 hs21 hd21 hh22 hl22 hs22 hd22 hh23 hl23 hs23 hd23 hh30 hl30 hs30 hd30 hh31 hl31 hs31 hd31 hh32 hl32 hs32 hd32 hh33 hl33 hs33 hd33
    omega
  have hlow := W_val hs00 hs10 hs20 hs30
  have hhigh := W_val hs31 hs32 hs33 hd33
  refine End.mk (tup_eq (cons_eq (natI_is hs31 hs32 hs33 hd33 ?_) (cons_eq (natI_is hs00 hs10 hs20 hs30 ?_) rfl))) rfl
  · rw [hprod]
    generalize val4 s00 s10 s20 s30 = x at *
    generalize val4 s31 s32 s33 d33 = y at *
    unfold W B4 at *; clear hprod; omega
  · rw [hprod]
    generalize val4 s00 s10 s20 s30 = x at *
    generalize val4 s31 s32 s33 d33 = y at *
    unfold W B4 at *; clear hprod; omega
end Go.Proofs.Ytafiechoplbieaa

set_option linter.unusedVariables false
set_option linter.unusedSimpArgs false
set_option maxRecDepth 100000
namespace Go.Proofs.Ytafiechoplbieaa
open Go.AM
theorem rhalf0 {p0 p1 p2 p3 p4 p5 p6 p7 : Int} (h0 : V p0) (h1 : V p1) : Ret Try.prog 99 [.agg [.int .u64 (p0 + 4294967296 * p1), .int .u64 (p2 + 4294967296 * p3), .int .u64 (p4 + 4294967296 * p5), .int .u64 (p6 + 4294967296 * p7)], .int .i64 0] [] (.int .u64 p0) [] := by
  refine ret_of_body atNone tok mixed Try.func99 (by kernel_rfl) rfl (k := 14) (rs := [.tmp 4]) (by kernel_rfl) (by kernel_rfl) ?_
  conv => whnf
  (repeat (first | (refine Cond.tt rfl ?_; conv => whnf) | (refine Cond.ff rfl ?_; conv => whnf) | (refine Pick.tt rfl ?_; conv => whnf) | (refine Pick.ff rfl ?_; conv => whnf) | (refine Need.mk (by decide) ?_; conv => whnf)))
  refine End.mk (int_eq ?_) rfl
  rw [show min (IntKind.i64.wrap (Int.tmod 0 2 * 32)).toNat IntKind.u64.bits = 0 from by decide, show ((2 : Int) ^ 0) = 1 from by decide, fdiv_pos _ (by decide)]
  unfold V at *
  rw [tmod32 (by omega)]
  omega
theorem rhalf1 {p0 p1 p2 p3 p4 p5 p6 p7 : Int} (h0 : V p0) (h1 : V p1) : Ret Try.prog 99 [.agg [.int .u64 (p0 + 4294967296 * p1), .int .u64 (p2 + 4294967296 * p3), .int .u64 (p4 + 4294967296 * p5), .int .u64 (p6 + 4294967296 * p7)], .int .i64 1] [] (.int .u64 p1) [] := by
  refine ret_of_body atNone tok mixed Try.func99 (by kernel_rfl) rfl (k := 14) (rs := [.tmp 4]) (by kernel_rfl) (by kernel_rfl) ?_
  conv => whnf
  (repeat (first | (refine Cond.tt rfl ?_; conv => whnf) | (refine Cond.ff rfl ?_; conv => whnf) | (refine Pick.tt rfl ?_; conv => whnf) | (refine Pick.ff rfl ?_; conv => whnf) | (refine Need.mk (by decide) ?_; conv => whnf)))
  refine End.mk (int_eq ?_) rfl
  rw [show min (IntKind.i64.wrap (Int.tmod 1 2 * 32)).toNat IntKind.u64.bits = 32 from by decide, show ((2 : Int) ^ 32) = 4294967296 from by decide, fdiv_pos _ (by decide)]
  unfold V at *
  rw [tmod32 (by omega)]
  omega
theorem rhalf2 {p0 p1 p2 p3 p4 p5 p6 p7 : Int} (h2 : V p2) (h3 : V p3) : Ret Try.prog 99 [.agg [.int .u64 (p0 + 4294967296 * p1), .int .u64 (p2 + 4294967296 * p3), .int .u64 (p4 + 4294967296 * p5), .int .u64 (p6 + 4294967296 * p7)], .int .i64 2] [] (.int .u64 p2) [] := by
  refine ret_of_body atNone tok mixed Try.func99 (by kernel_rfl) rfl (k := 14) (rs := [.tmp 4]) (by kernel_rfl) (by kernel_rfl) ?_
  conv => whnf
  (repeat (first | (refine Cond.tt rfl ?_; conv => whnf) | (refine Cond.ff rfl ?_; conv => whnf) | (refine Pick.tt rfl ?_; conv => whnf) | (refine Pick.ff rfl ?_; conv => whnf) | (refine Need.mk (by decide) ?_; conv => whnf)))
  refine End.mk (int_eq ?_) rfl
  rw [show min (IntKind.i64.wrap (Int.tmod 2 2 * 32)).toNat IntKind.u64.bits = 0 from by decide, show ((2 : Int) ^ 0) = 1 from by decide, fdiv_pos _ (by decide)]
  unfold V at *
  rw [tmod32 (by omega)]
  omega
theorem rhalf3 {p0 p1 p2 p3 p4 p5 p6 p7 : Int} (h2 : V p2) (h3 : V p3) : Ret Try.prog 99 [.agg [.int .u64 (p0 + 4294967296 * p1), .int .u64 (p2 + 4294967296 * p3), .int .u64 (p4 + 4294967296 * p5), .int .u64 (p6 + 4294967296 * p7)], .int .i64 3] [] (.int .u64 p3) [] := by
  refine ret_of_body atNone tok mixed Try.func99 (by kernel_rfl) rfl (k := 14) (rs := [.tmp 4]) (by kernel_rfl) (by kernel_rfl) ?_
  conv => whnf
  (repeat (first | (refine Cond.tt rfl ?_; conv => whnf) | (refine Cond.ff rfl ?_; conv => whnf) | (refine Pick.tt rfl ?_; conv => whnf) | (refine Pick.ff rfl ?_; conv => whnf) | (refine Need.mk (by decide) ?_; conv => whnf)))
  refine End.mk (int_eq ?_) rfl
  rw [show min (IntKind.i64.wrap (Int.tmod 3 2 * 32)).toNat IntKind.u64.bits = 32 from by decide, show ((2 : Int) ^ 32) = 4294967296 from by decide, fdiv_pos _ (by decide)]
  unfold V at *
  rw [tmod32 (by omega)]
  omega
theorem rhalf4 {p0 p1 p2 p3 p4 p5 p6 p7 : Int} (h4 : V p4) (h5 : V p5) : Ret Try.prog 99 [.agg [.int .u64 (p0 + 4294967296 * p1), .int .u64 (p2 + 4294967296 * p3), .int .u64 (p4 + 4294967296 * p5), .int .u64 (p6 + 4294967296 * p7)], .int .i64 4] [] (.int .u64 p4) [] := by
  refine ret_of_body atNone tok mixed Try.func99 (by kernel_rfl) rfl (k := 14) (rs := [.tmp 4]) (by kernel_rfl) (by kernel_rfl) ?_
  conv => whnf
  (repeat (first | (refine Cond.tt rfl ?_; conv => whnf) | (refine Cond.ff rfl ?_; conv => whnf) | (refine Pick.tt rfl ?_; conv => whnf) | (refine Pick.ff rfl ?_; conv => whnf) | (refine Need.mk (by decide) ?_; conv => whnf)))
  refine End.mk (int_eq ?_) rfl
  rw [show min (IntKind.i64.wrap (Int.tmod 4 2 * 32)).toNat IntKind.u64.bits = 0 from by decide, show ((2 : Int) ^ 0) = 1 from by decide, fdiv_pos _ (by decide)]
  unfold V at *
  rw [tmod32 (by omega)]
  omega
theorem rhalf5 {p0 p1 p2 p3 p4 p5 p6 p7 : Int} (h4 : V p4) (h5 : V p5) : Ret Try.prog 99 [.agg [.int .u64 (p0 + 4294967296 * p1), .int .u64 (p2 + 4294967296 * p3), .int .u64 (p4 + 4294967296 * p5), .int .u64 (p6 + 4294967296 * p7)], .int .i64 5] [] (.int .u64 p5) [] := by
  refine ret_of_body atNone tok mixed Try.func99 (by kernel_rfl) rfl (k := 14) (rs := [.tmp 4]) (by kernel_rfl) (by kernel_rfl) ?_
  conv => whnf
  (repeat (first | (refine Cond.tt rfl ?_; conv => whnf) | (refine Cond.ff rfl ?_; conv => whnf) | (refine Pick.tt rfl ?_; conv => whnf) | (refine Pick.ff rfl ?_; conv => whnf) | (refine Need.mk (by decide) ?_; conv => whnf)))
  refine End.mk (int_eq ?_) rfl
  rw [show min (IntKind.i64.wrap (Int.tmod 5 2 * 32)).toNat IntKind.u64.bits = 32 from by decide, show ((2 : Int) ^ 32) = 4294967296 from by decide, fdiv_pos _ (by decide)]
  unfold V at *
  rw [tmod32 (by omega)]
  omega
theorem rhalf6 {p0 p1 p2 p3 p4 p5 p6 p7 : Int} (h6 : V p6) (h7 : V p7) : Ret Try.prog 99 [.agg [.int .u64 (p0 + 4294967296 * p1), .int .u64 (p2 + 4294967296 * p3), .int .u64 (p4 + 4294967296 * p5), .int .u64 (p6 + 4294967296 * p7)], .int .i64 6] [] (.int .u64 p6) [] := by
  refine ret_of_body atNone tok mixed Try.func99 (by kernel_rfl) rfl (k := 14) (rs := [.tmp 4]) (by kernel_rfl) (by kernel_rfl) ?_
  conv => whnf
  (repeat (first | (refine Cond.tt rfl ?_; conv => whnf) | (refine Cond.ff rfl ?_; conv => whnf) | (refine Pick.tt rfl ?_; conv => whnf) | (refine Pick.ff rfl ?_; conv => whnf) | (refine Need.mk (by decide) ?_; conv => whnf)))
  refine End.mk (int_eq ?_) rfl
  rw [show min (IntKind.i64.wrap (Int.tmod 6 2 * 32)).toNat IntKind.u64.bits = 0 from by decide, show ((2 : Int) ^ 0) = 1 from by decide, fdiv_pos _ (by decide)]
  unfold V at *
  rw [tmod32 (by omega)]
  omega
theorem rhalf7 {p0 p1 p2 p3 p4 p5 p6 p7 : Int} (h6 : V p6) (h7 : V p7) : Ret Try.prog 99 [.agg [.int .u64 (p0 + 4294967296 * p1), .int .u64 (p2 + 4294967296 * p3), .int .u64 (p4 + 4294967296 * p5), .int .u64 (p6 + 4294967296 * p7)], .int .i64 7] [] (.int .u64 p7) [] := by
  refine ret_of_body atNone tok mixed Try.func99 (by kernel_rfl) rfl (k := 14) (rs := [.tmp 4]) (by kernel_rfl) (by kernel_rfl) ?_
  conv => whnf
  (repeat (first | (refine Cond.tt rfl ?_; conv => whnf) | (refine Cond.ff rfl ?_; conv => whnf) | (refine Pick.tt rfl ?_; conv => whnf) | (refine Pick.ff rfl ?_; conv => whnf) | (refine Need.mk (by decide) ?_; conv => whnf)))
  refine End.mk (int_eq ?_) rfl
  rw [show min (IntKind.i64.wrap (Int.tmod 7 2 * 32)).toNat IntKind.u64.bits = 32 from by decide, show ((2 : Int) ^ 32) = 4294967296 from by decide, fdiv_pos _ (by decide)]
  unfold V at *
  rw [tmod32 (by omega)]
  omega
end Go.Proofs.Ytafiechoplbieaa

set_option linter.unusedVariables false
set_option linter.unusedSimpArgs false
set_option maxRecDepth 100000
namespace Go.Proofs.Ytafiechoplbieaa
open Go.AM
set_option maxRecDepth 100000 in
set_option maxHeartbeats 8000000 in
theorem rMul_ret (a b : Int) (ha : W a) (hb : W b) : Ret Try.prog 92 [natI a, natI b] [] (.tup [natI (a * b / B4), natI (a * b % B4)]) [] := by
  obtain ⟨a0, a1, a2, a3, ha0, ha1, ha2, ha3, rfl⟩ := W_limbs ha
  obtain ⟨b0, b1, b2, b3, hb0, hb1, hb2, hb3, rfl⟩ := W_limbs hb
  rw [natI_val ha0 ha1 ha2 ha3, natI_val hb0 hb1 hb2 hb3]
  clear ha hb
  obtain ⟨x0, x1, hx0, hx1, rfl⟩ := U_digits ha0
  obtain ⟨x2, x3, hx2, hx3, rfl⟩ := U_digits ha1
  obtain ⟨x4, x5, hx4, hx5, rfl⟩ := U_digits ha2
  obtain ⟨x6, x7, hx6, hx7, rfl⟩ := U_digits ha3
  obtain ⟨y0, y1, hy0, hy1, rfl⟩ := U_digits hb0
  obtain ⟨y2, y3, hy2, hy3, rfl⟩ := U_digits hb1
  obtain ⟨y4, y5, hy4, hy5, rfl⟩ := U_digits hb2
  obtain ⟨y6, y7, hy6, hy7, rfl⟩ := U_digits hb3
  clear ha0 ha1 ha2 ha3 hb0 hb1 hb2 hb3
  have hz : V 0 := by unfold V; decide
  refine ret_of_body atNone tok mixed Try.func92 (by kernel_rfl) rfl (k := 82) (rs := [.cell 4 38, .cell 5 38]) (by kernel_rfl) (by kernel_rfl) ?_
  conv => whnf
  (repeat (first | (refine Cond.tt rfl ?_; conv => whnf) | (refine Cond.ff rfl ?_; conv => whnf) | (refine Pick.tt rfl ?_; conv => whnf) | (refine Pick.ff rfl ?_; conv => whnf) | (refine Need.mk (by decide) ?_; conv => whnf)))
  intro I hw hs
  apply hs
  conv => whnf
  (repeat (first | (refine Cond.tt rfl ?_; conv => whnf) | (refine Cond.ff rfl ?_; conv => whnf) | (refine Pick.tt rfl ?_; conv => whnf) | (refine Pick.ff rfl ?_; conv => whnf) | (refine Need.mk (by decide) ?_; conv => whnf)))
  intro I0 hw0 hs0
  apply hs0
  conv => whnf
  (repeat (first | (refine Cond.tt rfl ?_; conv => whnf) | (refine Cond.ff rfl ?_; conv => whnf) | (refine Pick.tt rfl ?_; conv => whnf) | (refine Pick.ff rfl ?_; conv => whnf) | (refine Need.mk (by decide) ?_; conv => whnf)))
  refine Called.mk _ _ (rhalf0 hx0 hx1) ?_
  conv => whnf
  (repeat (first | (refine Cond.tt rfl ?_; conv => whnf) | (refine Cond.ff rfl ?_; conv => whnf) | (refine Pick.tt rfl ?_; conv => whnf) | (refine Pick.ff rfl ?_; conv => whnf) | (refine Need.mk (by decide) ?_; conv => whnf)))
  refine Called.mk _ _ (rhalf0 hy0 hy1) ?_
  conv => whnf
  (repeat (first | (refine Cond.tt rfl ?_; conv => whnf) | (refine Cond.ff rfl ?_; conv => whnf) | (refine Pick.tt rfl ?_; conv => whnf) | (refine Pick.ff rfl ?_; conv => whnf) | (refine Need.mk (by decide) ?_; conv => whnf)))
  obtain ⟨s00, e00, f00, e1, e2, e3, he00, hf00, q00⟩ := mul_step32 hx0 hy0 hz hz
  rw [e1, e2, e3, show IntKind.i64.wrap (0 + 1) = 1 from by decide]
  clear e1 e2 e3
  apply hs0
  conv => whnf
  (repeat (first | (refine Cond.tt rfl ?_; conv => whnf) | (refine Cond.ff rfl ?_; conv => whnf) | (refine Pick.tt rfl ?_; conv => whnf) | (refine Pick.ff rfl ?_; conv => whnf) | (refine Need.mk (by decide) ?_; conv => whnf)))
  refine Called.mk _ _ (rhalf0 hx0 hx1) ?_
  conv => whnf
  (repeat (first | (refine Cond.tt rfl ?_; conv => whnf) | (refine Cond.ff rfl ?_; conv => whnf) | (refine Pick.tt rfl ?_; conv => whnf) | (refine Pick.ff rfl ?_; conv => whnf) | (refine Need.mk (by decide) ?_; conv => whnf)))
  refine Called.mk _ _ (rhalf1 hy0 hy1) ?_
  conv => whnf
  (repeat (first | (refine Cond.tt rfl ?_; conv => whnf) | (refine Cond.ff rfl ?_; conv => whnf) | (refine Pick.tt rfl ?_; conv => whnf) | (refine Pick.ff rfl ?_; conv => whnf) | (refine Need.mk (by decide) ?_; conv => whnf)))
  obtain ⟨s01, e01, f01, e1, e2, e3, he01, hf01, q01⟩ := mul_step32 hx0 hy1 hz hf00
  rw [e1, e2, e3, show IntKind.i64.wrap (1 + 1) = 2 from by decide]
  clear e1 e2 e3
  apply hs0
  conv => whnf
  (repeat (first | (refine Cond.tt rfl ?_; conv => whnf) | (refine Cond.ff rfl ?_; conv => whnf) | (refine Pick.tt rfl ?_; conv => whnf) | (refine Pick.ff rfl ?_; conv => whnf) | (refine Need.mk (by decide) ?_; conv => whnf)))
  refine Called.mk _ _ (rhalf0 hx0 hx1) ?_
  conv => whnf
  (repeat (first | (refine Cond.tt rfl ?_; conv => whnf) | (refine Cond.ff rfl ?_; conv => whnf) | (refine Pick.tt rfl ?_; conv => whnf) | (refine Pick.ff rfl ?_; conv => whnf) | (refine Need.mk (by decide) ?_; conv => whnf)))
  refine Called.mk _ _ (rhalf2 hy2 hy3) ?_
  conv => whnf
  (repeat (first | (refine Cond.tt rfl ?_; conv => whnf) | (refine Cond.ff rfl ?_; conv => whnf) | (refine Pick.tt rfl ?_; conv => whnf) | (refine Pick.ff rfl ?_; conv => whnf) | (refine Need.mk (by decide) ?_; conv => whnf)))
  obtain ⟨s02, e02, f02, e1, e2, e3, he02, hf02, q02⟩ := mul_step32 hx0 hy2 hz hf01
  rw [e1, e2, e3, show IntKind.i64.wrap (2 + 1) = 3 from by decide]
  clear e1 e2 e3
  apply hs0
  conv => whnf
  (repeat (first | (refine Cond.tt rfl ?_; conv => whnf) | (refine Cond.ff rfl ?_; conv => whnf) | (refine Pick.tt rfl ?_; conv => whnf) | (refine Pick.ff rfl ?_; conv => whnf) | (refine Need.mk (by decide) ?_; conv => whnf)))
  refine Called.mk _ _ (rhalf0 hx0 hx1) ?_
  conv => whnf
  (repeat (first | (refine Cond.tt rfl ?_; conv => whnf) | (refine Cond.ff rfl ?_; conv => whnf) | (refine Pick.tt rfl ?_; conv => whnf) | (refine Pick.ff rfl ?_; conv => whnf) | (refine Need.mk (by decide) ?_; conv => whnf)))
  refine Called.mk _ _ (rhalf3 hy2 hy3) ?_
  conv => whnf
  (repeat (first | (refine Cond.tt rfl ?_; conv => whnf) | (refine Cond.ff rfl ?_; conv => whnf) | (refine Pick.tt rfl ?_; conv => whnf) | (refine Pick.ff rfl ?_; conv => whnf) | (refine Need.mk (by decide) ?_; conv => whnf)))
  obtain ⟨s03, e03, f03, e1, e2, e3, he03, hf03, q03⟩ := mul_step32 hx0 hy3 hz hf02
  rw [e1, e2, e3, show IntKind.i64.wrap (3 + 1) = 4 from by decide]
  clear e1 e2 e3
  apply hs0
  conv => whnf
  (repeat (first | (refine Cond.tt rfl ?_; conv => whnf) | (refine Cond.ff rfl ?_; conv => whnf) | (refine Pick.tt rfl ?_; conv => whnf) | (refine Pick.ff rfl ?_; conv => whnf) | (refine Need.mk (by decide) ?_; conv => whnf)))
  refine Called.mk _ _ (rhalf0 hx0 hx1) ?_
  conv => whnf
  (repeat (first | (refine Cond.tt rfl ?_; conv => whnf) | (refine Cond.ff rfl ?_; conv => whnf) | (refine Pick.tt rfl ?_; conv => whnf) | (refine Pick.ff rfl ?_; conv => whnf) | (refine Need.mk (by decide) ?_; conv => whnf)))
  refine Called.mk _ _ (rhalf4 hy4 hy5) ?_
  conv => whnf
  (repeat (first | (refine Cond.tt rfl ?_; conv => whnf) | (refine Cond.ff rfl ?_; conv => whnf) | (refine Pick.tt rfl ?_; conv => whnf) | (refine Pick.ff rfl ?_; conv => whnf) | (refine Need.mk (by decide) ?_; conv => whnf)))
  obtain ⟨s04, e04, f04, e1, e2, e3, he04, hf04, q04⟩ := mul_step32 hx0 hy4 hz hf03
  rw [e1, e2, e3, show IntKind.i64.wrap (4 + 1) = 5 from by decide]
  clear e1 e2 e3
  apply hs0
  conv => whnf
  (repeat (first | (refine Cond.tt rfl ?_; conv => whnf) | (refine Cond.ff rfl ?_; conv => whnf) | (refine Pick.tt rfl ?_; conv => whnf) | (refine Pick.ff rfl ?_; conv => whnf) | (refine Need.mk (by decide) ?_; conv => whnf)))
  refine Called.mk _ _ (rhalf0 hx0 hx1) ?_
  conv => whnf
  (repeat (first | (refine Cond.tt rfl ?_; conv => whnf) | (refine Cond.ff rfl ?_; conv => whnf) | (refine Pick.tt rfl ?_; conv => whnf) | (refine Pick.ff rfl ?_; conv => whnf) | (refine Need.mk (by decide) ?_; conv => whnf)))
  refine Called.mk _ _ (rhalf5 hy4 hy5) ?_
  conv => whnf
  (repeat (first | (refine Cond.tt rfl ?_; conv => whnf) | (refine Cond.ff rfl ?_; conv => whnf) | (refine Pick.tt rfl ?_; conv => whnf) | (refine Pick.ff rfl ?_; conv => whnf) | (refine Need.mk (by decide) ?_; conv => whnf)))
  obtain ⟨s05, e05, f05, e1, e2, e3, he05, hf05, q05⟩ := mul_step32 hx0 hy5 hz hf04
  rw [e1, e2, e3, show IntKind.i64.wrap (5 + 1) = 6 from by decide]
  clear e1 e2 e3
  apply hs0
  conv => whnf
  (repeat (first | (refine Cond.tt rfl ?_; conv => whnf) | (refine Cond.ff rfl ?_; conv => whnf) | (refine Pick.tt rfl ?_; conv => whnf) | (refine Pick.ff rfl ?_; conv => whnf) | (refine Need.mk (by decide) ?_; conv => whnf)))
  refine Called.mk _ _ (rhalf0 hx0 hx1) ?_
  conv => whnf
  (repeat (first | (refine Cond.tt rfl ?_; conv => whnf) | (refine Cond.ff rfl ?_; conv => whnf) | (refine Pick.tt rfl ?_; conv => whnf) | (refine Pick.ff rfl ?_; conv => whnf) | (refine Need.mk (by decide) ?_; conv => whnf)))
  refine Called.mk _ _ (rhalf6 hy6 hy7) ?_
  conv => whnf
  (repeat (first | (refine Cond.tt rfl ?_; conv => whnf) | (refine Cond.ff rfl ?_; conv => whnf) | (refine Pick.tt rfl ?_; conv => whnf) | (refine Pick.ff rfl ?_; conv => whnf) | (refine Need.mk (by decide) ?_; conv => whnf)))
  obtain ⟨s06, e06, f06, e1, e2, e3, he06, hf06, q06⟩ := mul_step32 hx0 hy6 hz hf05
  rw [e1, e2, e3, show IntKind.i64.wrap (6 + 1) = 7 from by decide]
  clear e1 e2 e3
  apply hs0
  conv => whnf
  (repeat (first | (refine Cond.tt rfl ?_; conv => whnf) | (refine Cond.ff rfl ?_; conv => whnf) | (refine Pick.tt rfl ?_; conv => whnf) | (refine Pick.ff rfl ?_; conv => whnf) | (refine Need.mk (by decide) ?_; conv => whnf)))
  refine Called.mk _ _ (rhalf0 hx0 hx1) ?_
  conv => whnf
  (repeat (first | (refine Cond.tt rfl ?_; conv => whnf) | (refine Cond.ff rfl ?_; conv => whnf) | (refine Pick.tt rfl ?_; conv => whnf) | (refine Pick.ff rfl ?_; conv => whnf) | (refine Need.mk (by decide) ?_; conv => whnf)))
  refine Called.mk _ _ (rhalf7 hy6 hy7) ?_
  conv => whnf
  (repeat (first | (refine Cond.tt rfl ?_; conv => whnf) | (refine Cond.ff rfl ?_; conv => whnf) | (refine Pick.tt rfl ?_; conv => whnf) | (refine Pick.ff rfl ?_; conv => whnf) | (refine Need.mk (by decide) ?_; conv => whnf)))
  obtain ⟨s07, e07, f07, e1, e2, e3, he07, hf07, q07⟩ := mul_step32 hx0 hy7 hz hf06
  rw [e1, e2, e3, show IntKind.i64.wrap (7 + 1) = 8 from by decide]
  clear e1 e2 e3
  apply hs0
  conv => whnf
  (repeat (first | (refine Cond.tt rfl ?_; conv => whnf) | (refine Cond.ff rfl ?_; conv => whnf) | (refine Pick.tt rfl ?_; conv => whnf) | (refine Pick.ff rfl ?_; conv => whnf) | (refine Need.mk (by decide) ?_; conv => whnf)))
  rw [show IntKind.i64.wrap (0 + 1) = 1 from by decide]
  have r0 : x0 * val8 y0 y1 y2 y3 y4 y5 y6 y7 + val8 0 0 0 0 0 0 0 0 = val8 e00 e01 e02 e03 e04 e05 e06 e07 + B4 * f07 := by
    rw [mul_val8]; unfold val8 B4
    clear hs hs0 hw hw0
    generalize x0 * y0 = p0 at *
    generalize x0 * y1 = p1 at *
    generalize x0 * y2 = p2 at *
    generalize x0 * y3 = p3 at *
    generalize x0 * y4 = p4 at *
    generalize x0 * y5 = p5 at *
    generalize x0 * y6 = p6 at *
    generalize x0 * y7 = p7 at *
    omega
  clear hs0 hw0 I0 q00 q01 q02 q03 q04 q05 q06 q07 hf00 hf01 hf02 hf03 hf04 hf05 hf06
  apply hs
  conv => whnf
  (repeat (first | (refine Cond.tt rfl ?_; conv => whnf) | (refine Cond.ff rfl ?_; conv => whnf) | (refine Pick.tt rfl ?_; conv => whnf) | (refine Pick.ff rfl ?_; conv => whnf) | (refine Need.mk (by decide) ?_; conv => whnf)))
  intro I1 hw1 hs1
  apply hs1
  conv => whnf
  (repeat (first | (refine Cond.tt rfl ?_; conv => whnf) | (refine Cond.ff rfl ?_; conv => whnf) | (refine Pick.tt rfl ?_; conv => whnf) | (refine Pick.ff rfl ?_; conv => whnf) | (refine Need.mk (by decide) ?_; conv => whnf)))
  refine Called.mk _ _ (rhalf1 hx0 hx1) ?_
  conv => whnf
  (repeat (first | (refine Cond.tt rfl ?_; conv => whnf) | (refine Cond.ff rfl ?_; conv => whnf) | (refine Pick.tt rfl ?_; conv => whnf) | (refine Pick.ff rfl ?_; conv => whnf) | (refine Need.mk (by decide) ?_; conv => whnf)))
  refine Called.mk _ _ (rhalf0 hy0 hy1) ?_
  conv => whnf
  (repeat (first | (refine Cond.tt rfl ?_; conv => whnf) | (refine Cond.ff rfl ?_; conv => whnf) | (refine Pick.tt rfl ?_; conv => whnf) | (refine Pick.ff rfl ?_; conv => whnf) | (refine Need.mk (by decide) ?_; conv => whnf)))
  obtain ⟨s10, e10, f10, e1, e2, e3, he10, hf10, q10⟩ := mul_step32 hx1 hy0 he01 hz
  rw [e1, e2, e3, show IntKind.i64.wrap (0 + 1) = 1 from by decide]
  clear e1 e2 e3
  apply hs1
  conv => whnf
  (repeat (first | (refine Cond.tt rfl ?_; conv => whnf) | (refine Cond.ff rfl ?_; conv => whnf) | (refine Pick.tt rfl ?_; conv => whnf) | (refine Pick.ff rfl ?_; conv => whnf) | (refine Need.mk (by decide) ?_; conv => whnf)))
  refine Called.mk _ _ (rhalf1 hx0 hx1) ?_
  conv => whnf
  (repeat (first | (refine Cond.tt rfl ?_; conv => whnf) | (refine Cond.ff rfl ?_; conv => whnf) | (refine Pick.tt rfl ?_; conv => whnf) | (refine Pick.ff rfl ?_; conv => whnf) | (refine Need.mk (by decide) ?_; conv => whnf)))
  refine Called.mk _ _ (rhalf1 hy0 hy1) ?_
  conv => whnf
  (repeat (first | (refine Cond.tt rfl ?_; conv => whnf) | (refine Cond.ff rfl ?_; conv => whnf) | (refine Pick.tt rfl ?_; conv => whnf) | (refine Pick.ff rfl ?_; conv => whnf) | (refine Need.mk (by decide) ?_; conv => whnf)))
  obtain ⟨s11, e11, f11, e1, e2, e3, he11, hf11, q11⟩ := mul_step32 hx1 hy1 he02 hf10
  rw [e1, e2, e3, show IntKind.i64.wrap (1 + 1) = 2 from by decide]
  clear e1 e2 e3
  apply hs1
  conv => whnf
  (repeat (first | (refine Cond.tt rfl ?_; conv => whnf) | (refine Cond.ff rfl ?_; conv => whnf) | (refine Pick.tt rfl ?_; conv => whnf) | (refine Pick.ff rfl ?_; conv => whnf) | (refine Need.mk (by decide) ?_; conv => whnf)))
  refine Called.mk _ _ (rhalf1 hx0 hx1) ?_
  conv => whnf
  (repeat (first | (refine Cond.tt rfl ?_; conv => whnf) | (refine Cond.ff rfl ?_; conv => whnf) | (refine Pick.tt rfl ?_; conv => whnf) | (refine Pick.ff rfl ?_; conv => whnf) | (refine Need.mk (by decide) ?_; conv => whnf)))
  refine Called.mk _ _ (rhalf2 hy2 hy3) ?_
  conv => whnf
  (repeat (first | (refine Cond.tt rfl ?_; conv => whnf) | (refine Cond.ff rfl ?_; conv => whnf) | (refine Pick.tt rfl ?_; conv => whnf) | (refine Pick.ff rfl ?_; conv => whnf) | (refine Need.mk (by decide) ?_; conv => whnf)))
  obtain ⟨s12, e12, f12, e1, e2, e3, he12, hf12, q12⟩ := mul_step32 hx1 hy2 he03 hf11
  rw [e1, e2, e3, show IntKind.i64.wrap (2 + 1) = 3 from by decide]
  clear e1 e2 e3
  apply hs1
  conv => whnf
  (repeat (first | (refine Cond.tt rfl ?_; conv => whnf) | (refine Cond.ff rfl ?_; conv => whnf) | (refine Pick.tt rfl ?_; conv => whnf) | (refine Pick.ff rfl ?_; conv => whnf) | (refine Need.mk (by decide) ?_; conv => whnf)))
  refine Called.mk _ _ (rhalf1 hx0 hx1) ?_
  conv => whnf
  (repeat (first | (refine Cond.tt rfl ?_; conv => whnf) | (refine Cond.ff rfl ?_; conv => whnf) | (refine Pick.tt rfl ?_; conv => whnf) | (refine Pick.ff rfl ?_; conv => whnf) | (refine Need.mk (by decide) ?_; conv => whnf)))
  refine Called.mk _ _ (rhalf3 hy2 hy3) ?_
  conv => whnf
  (repeat (first | (refine Cond.tt rfl ?_; conv => whnf) | (refine Cond.ff rfl ?_; conv => whnf) | (refine Pick.tt rfl ?_; conv => whnf) | (refine Pick.ff rfl ?_; conv => whnf) | (refine Need.mk (by decide) ?_; conv => whnf)))
  obtain ⟨s13, e13, f13, e1, e2, e3, he13, hf13, q13⟩ := mul_step32 hx1 hy3 he04 hf12
  rw [e1, e2, e3, show IntKind.i64.wrap (3 + 1) = 4 from by decide]
  clear e1 e2 e3
  apply hs1
  conv => whnf
  (repeat (first | (refine Cond.tt rfl ?_; conv => whnf) | (refine Cond.ff rfl ?_; conv => whnf) | (refine Pick.tt rfl ?_; conv => whnf) | (refine Pick.ff rfl ?_; conv => whnf) | (refine Need.mk (by decide) ?_; conv => whnf)))
  refine Called.mk _ _ (rhalf1 hx0 hx1) ?_
  conv => whnf
  (repeat (first | (refine Cond.tt rfl ?_; conv => whnf) | (refine Cond.ff rfl ?_; conv => whnf) | (refine Pick.tt rfl ?_; conv => whnf) | (refine Pick.ff rfl ?_; conv => whnf) | (refine Need.mk (by decide) ?_; conv => whnf)))
  refine Called.mk _ _ (rhalf4 hy4 hy5) ?_
  conv => whnf
  (repeat (first | (refine Cond.tt rfl ?_; conv => whnf) | (refine Cond.ff rfl ?_; conv => whnf) | (refine Pick.tt rfl ?_; conv => whnf) | (refine Pick.ff rfl ?_; conv => whnf) | (refine Need.mk (by decide) ?_; conv => whnf)))
  obtain ⟨s14, e14, f14, e1, e2, e3, he14, hf14, q14⟩ := mul_step32 hx1 hy4 he05 hf13
  rw [e1, e2, e3, show IntKind.i64.wrap (4 + 1) = 5 from by decide]
  clear e1 e2 e3
  apply hs1
  conv => whnf
  (repeat (first | (refine Cond.tt rfl ?_; conv => whnf) | (refine Cond.ff rfl ?_; conv => whnf) | (refine Pick.tt rfl ?_; conv => whnf) | (refine Pick.ff rfl ?_; conv => whnf) | (refine Need.mk (by decide) ?_; conv => whnf)))
  refine Called.mk _ _ (rhalf1 hx0 hx1) ?_
  conv => whnf
  (repeat (first | (refine Cond.tt rfl ?_; conv => whnf) | (refine Cond.ff rfl ?_; conv => whnf) | (refine Pick.tt rfl ?_; conv => whnf) | (refine Pick.ff rfl ?_; conv => whnf) | (refine Need.mk (by decide) ?_; conv => whnf)))
  refine Called.mk _ _ (rhalf5 hy4 hy5) ?_
  conv => whnf
  (repeat (first | (refine Cond.tt rfl ?_; conv => whnf) | (refine Cond.ff rfl ?_; conv => whnf) | (refine Pick.tt rfl ?_; conv => whnf) | (refine Pick.ff rfl ?_; conv => whnf) | (refine Need.mk (by decide) ?_; conv => whnf)))
  obtain ⟨s15, e15, f15, e1, e2, e3, he15, hf15, q15⟩ := mul_step32 hx1 hy5 he06 hf14
  rw [e1, e2, e3, show IntKind.i64.wrap (5 + 1) = 6 from by decide]
  clear e1 e2 e3
  apply hs1
  conv => whnf
  (repeat (first | (refine Cond.tt rfl ?_; conv => whnf) | (refine Cond.ff rfl ?_; conv => whnf) | (refine Pick.tt rfl ?_; conv => whnf) | (refine Pick.ff rfl ?_; conv => whnf) | (refine Need.mk (by decide) ?_; conv => whnf)))
  refine Called.mk _ _ (rhalf1 hx0 hx1) ?_
  conv => whnf
  (repeat (first | (refine Cond.tt rfl ?_; conv => whnf) | (refine Cond.ff rfl ?_; conv => whnf) | (refine Pick.tt rfl ?_; conv => whnf) | (refine Pick.ff rfl ?_; conv => whnf) | (refine Need.mk (by decide) ?_; conv => whnf)))
  refine Called.mk _ _ (rhalf6 hy6 hy7) ?_
  conv => whnf
  (repeat (first | (refine Cond.tt rfl ?_; conv => whnf) | (refine Cond.ff rfl ?_; conv => whnf) | (refine Pick.tt rfl ?_; conv => whnf) | (refine Pick.ff rfl ?_; conv => whnf) | (refine Need.mk (by decide) ?_; conv => whnf)))
  obtain ⟨s16, e16, f16, e1, e2, e3, he16, hf16, q16⟩ := mul_step32 hx1 hy6 he07 hf15
  rw [e1, e2, e3, show IntKind.i64.wrap (6 + 1) = 7 from by decide]
  clear e1 e2 e3
  apply hs1
  conv => whnf
  (repeat (first | (refine Cond.tt rfl ?_; conv => whnf) | (refine Cond.ff rfl ?_; conv => whnf) | (refine Pick.tt rfl ?_; conv => whnf) | (refine Pick.ff rfl ?_; conv => whnf) | (refine Need.mk (by decide) ?_; conv => whnf)))
  refine Called.mk _ _ (rhalf1 hx0 hx1) ?_
  conv => whnf
  (repeat (first | (refine Cond.tt rfl ?_; conv => whnf) | (refine Cond.ff rfl ?_; conv => whnf) | (refine Pick.tt rfl ?_; conv => whnf) | (refine Pick.ff rfl ?_; conv => whnf) | (refine Need.mk (by decide) ?_; conv => whnf)))
  refine Called.mk _ _ (rhalf7 hy6 hy7) ?_
  conv => whnf
  (repeat (first | (refine Cond.tt rfl ?_; conv => whnf) | (refine Cond.ff rfl ?_; conv => whnf) | (refine Pick.tt rfl ?_; conv => whnf) | (refine Pick.ff rfl ?_; conv => whnf) | (refine Need.mk (by decide) ?_; conv => whnf)))
  obtain ⟨s17, e17, f17, e1, e2, e3, he17, hf17, q17⟩ := mul_step32 hx1 hy7 hf07 hf16
  rw [e1, e2, e3, show IntKind.i64.wrap (7 + 1) = 8 from by decide]
  clear e1 e2 e3
  apply hs1
  conv => whnf
  (repeat (first | (refine Cond.tt rfl ?_; conv => whnf) | (refine Cond.ff rfl ?_; conv => whnf) | (refine Pick.tt rfl ?_; conv => whnf) | (refine Pick.ff rfl ?_; conv => whnf) | (refine Need.mk (by decide) ?_; conv => whnf)))
  rw [show IntKind.i64.wrap (1 + 1) = 2 from by decide]
  have r1 : x1 * val8 y0 y1 y2 y3 y4 y5 y6 y7 + val8 e01 e02 e03 e04 e05 e06 e07 f07 = val8 e10 e11 e12 e13 e14 e15 e16 e17 + B4 * f17 := by
    rw [mul_val8]; unfold val8 B4
    clear hs hs1 hw hw1
    generalize x1 * y0 = p0 at *
    generalize x1 * y1 = p1 at *
    generalize x1 * y2 = p2 at *
    generalize x1 * y3 = p3 at *
    generalize x1 * y4 = p4 at *
    generalize x1 * y5 = p5 at *
    generalize x1 * y6 = p6 at *
    generalize x1 * y7 = p7 at *
    omega
  clear hs1 hw1 I1 q10 q11 q12 q13 q14 q15 q16 q17 hf10 hf11 hf12 hf13 hf14 hf15 hf16
  clear he01 he02 he03 he04 he05 he06 he07 hf07
  apply hs
  conv => whnf
  (repeat (first | (refine Cond.tt rfl ?_; conv => whnf) | (refine Cond.ff rfl ?_; conv => whnf) | (refine Pick.tt rfl ?_; conv => whnf) | (refine Pick.ff rfl ?_; conv => whnf) | (refine Need.mk (by decide) ?_; conv => whnf)))
  intro I2 hw2 hs2
  apply hs2
  conv => whnf
  (repeat (first | (refine Cond.tt rfl ?_; conv => whnf) | (refine Cond.ff rfl ?_; conv => whnf) | (refine Pick.tt rfl ?_; conv => whnf) | (refine Pick.ff rfl ?_; conv => whnf) | (refine Need.mk (by decide) ?_; conv => whnf)))
  refine Called.mk _ _ (rhalf2 hx2 hx3) ?_
  conv => whnf
  (repeat (first | (refine Cond.tt rfl ?_; conv => whnf) | (refine Cond.ff rfl ?_; conv => whnf) | (refine Pick.tt rfl ?_; conv => whnf) | (refine Pick.ff rfl ?_; conv => whnf) | (refine Need.mk (by decide) ?_; conv => whnf)))
  refine Called.mk _ _ (rhalf0 hy0 hy1) ?_
  conv => whnf
  (repeat (first | (refine Cond.tt rfl ?_; conv => whnf) | (refine Cond.ff rfl ?_; conv => whnf) | (refine Pick.tt rfl ?_; conv => whnf) | (refine Pick.ff rfl ?_; conv => whnf) | (refine Need.mk (by decide) ?_; conv => whnf)))
  obtain ⟨s20, e20, f20, e1, e2, e3, he20, hf20, q20⟩ := mul_step32 hx2 hy0 he11 hz
  rw [e1, e2, e3, show IntKind.i64.wrap (0 + 1) = 1 from by decide]
  clear e1 e2 e3
  apply hs2
  conv => whnf
  (repeat (first | (refine Cond.tt rfl ?_; conv => whnf) | (refine Cond.ff rfl ?_; conv => whnf) | (refine Pick.tt rfl ?_; conv => whnf) | (refine Pick.ff rfl ?_; conv => whnf) | (refine Need.mk (by decide) ?_; conv => whnf)))
  refine Called.mk _ _ (rhalf2 hx2 hx3) ?_
  conv => whnf
  (repeat (first | (refine Cond.tt rfl ?_; conv => whnf) | (refine Cond.ff rfl ?_; conv => whnf) | (refine Pick.tt rfl ?_; conv => whnf) | (refine Pick.ff rfl ?_; conv => whnf) | (refine Need.mk (by decide) ?_; conv => whnf)))
  refine Called.mk _ _ (rhalf1 hy0 hy1) ?_
  conv => whnf
  (repeat (first | (refine Cond.tt rfl ?_; conv => whnf) | (refine Cond.ff rfl ?_; conv => whnf) | (refine Pick.tt rfl ?_; conv => whnf) | (refine Pick.ff rfl ?_; conv => whnf) | (refine Need.mk (by decide) ?_; conv => whnf)))
  obtain ⟨s21, e21, f21, e1, e2, e3, he21, hf21, q21⟩ := mul_step32 hx2 hy1 he12 hf20
  rw [e1, e2, e3, show IntKind.i64.wrap (1 + 1) = 2 from by decide]
  clear e1 e2 e3
  apply hs2
  conv => whnf
  (repeat (first | (refine Cond.tt rfl ?_; conv => whnf) | (refine Cond.ff rfl ?_; conv => whnf) | (refine Pick.tt rfl ?_; conv => whnf) | (refine Pick.ff rfl ?_; conv => whnf) | (refine Need.mk (by decide) ?_; conv => whnf)))
  refine Called.mk _ _ (rhalf2 hx2 hx3) ?_
  conv => whnf
  (repeat (first | (refine Cond.tt rfl ?_; conv => whnf) | (refine Cond.ff rfl ?_; conv => whnf) | (refine Pick.tt rfl ?_; conv => whnf) | (refine Pick.ff rfl ?_; conv => whnf) | (refine Need.mk (by decide) ?_; conv => whnf)))
  refine Called.mk _ _ (rhalf2 hy2 hy3) ?_
  conv => whnf
  (repeat (first | (refine Cond.tt rfl ?_; conv => whnf) | (refine Cond.ff rfl ?_; conv => whnf) | (refine Pick.tt rfl ?_; conv => whnf) | (refine Pick.ff rfl ?_; conv => whnf) | (refine Need.mk (by decide) ?_; conv => whnf)))
  obtain ⟨s22, e22, f22, e1, e2, e3, he22, hf22, q22⟩ := mul_step32 hx2 hy2 he13 hf21
  rw [e1, e2, e3, show IntKind.i64.wrap (2 + 1) = 3 from by decide]
  clear e1 e2 e3
  apply hs2
  conv => whnf
  (repeat (first | (refine Cond.tt rfl ?_; conv => whnf) | (refine Cond.ff rfl ?_; conv => whnf) | (refine Pick.tt rfl ?_; conv => whnf) | (refine Pick.ff rfl ?_; conv => whnf) | (refine Need.mk (by decide) ?_; conv => whnf)))
  refine Called.mk _ _ (rhalf2 hx2 hx3) ?_
  conv => whnf
  (repeat (first | (refine Cond.tt rfl ?_; conv => whnf) | (refine Cond.ff rfl ?_; conv => whnf) | (refine Pick.tt rfl ?_; conv => whnf) | (refine Pick.ff rfl ?_; conv => whnf) | (refine Need.mk (by decide) ?_; conv => whnf)))
  refine Called.mk _ _ (rhalf3 hy2 hy3) ?_
  conv => whnf
  (repeat (first | (refine Cond.tt rfl ?_; conv => whnf) | (refine Cond.ff rfl ?_; conv => whnf) | (refine Pick.tt rfl ?_; conv => whnf) | (refine Pick.ff rfl ?_; conv => whnf) | (refine Need.mk (by decide) ?_; conv => whnf)))
  obtain ⟨s23, e23, f23, e1, e2, e3, he23, hf23, q23⟩ := mul_step32 hx2 hy3 he14 hf22
  rw [e1, e2, e3, show IntKind.i64.wrap (3 + 1) = 4 from by decide]
  clear e1 e2 e3
  apply hs2
  conv => whnf
  (repeat (first | (refine Cond.tt rfl ?_; conv => whnf) | (refine Cond.ff rfl ?_; conv => whnf) | (refine Pick.tt rfl ?_; conv => whnf) | (refine Pick.ff rfl ?_; conv => whnf) | (refine Need.mk (by decide) ?_; conv => whnf)))
  refine Called.mk _ _ (rhalf2 hx2 hx3) ?_
  conv => whnf
  (repeat (first | (refine Cond.tt rfl ?_; conv => whnf) | (refine Cond.ff rfl ?_; conv => whnf) | (refine Pick.tt rfl ?_; conv => whnf) | (refine Pick.ff rfl ?_; conv => whnf) | (refine Need.mk (by decide) ?_; conv => whnf)))
  refine Called.mk _ _ (rhalf4 hy4 hy5) ?_
  conv => whnf
  (repeat (first | (refine Cond.tt rfl ?_; conv => whnf) | (refine Cond.ff rfl ?_; conv => whnf) | (refine Pick.tt rfl ?_; conv => whnf) | (refine Pick.ff rfl ?_; conv => whnf) | (refine Need.mk (by decide) ?_; conv => whnf)))
  obtain ⟨s24, e24, f24, e1, e2, e3, he24, hf24, q24⟩ := mul_step32 hx2 hy4 he15 hf23
  rw [e1, e2, e3, show IntKind.i64.wrap (4 + 1) = 5 from by decide]
  clear e1 e2 e3
  apply hs2
  conv => whnf
  (repeat (first | (refine Cond.tt rfl ?_; conv => whnf) | (refine Cond.ff rfl ?_; conv => whnf) | (refine Pick.tt rfl ?_; conv => whnf) | (refine Pick.ff rfl ?_; conv => whnf) | (refine Need.mk (by decide) ?_; conv => whnf)))
  refine Called.mk _ _ (rhalf2 hx2 hx3) ?_
  conv => whnf
  (repeat (first | (refine Cond.tt rfl ?_; conv => whnf) | (refine Cond.ff rfl ?_; conv => whnf) | (refine Pick.tt rfl ?_; conv => whnf) | (refine Pick.ff rfl ?_; conv => whnf) | (refine Need.mk (by decide) ?_; conv => whnf)))
  refine Called.mk _ _ (rhalf5 hy4 hy5) ?_
  conv => whnf
  (repeat (first | (refine Cond.tt rfl ?_; conv => whnf) | (refine Cond.ff rfl ?_; conv => whnf) | (refine Pick.tt rfl ?_; conv => whnf) | (refine Pick.ff rfl ?_; conv => whnf) | (refine Need.mk (by decide) ?_; conv => whnf)))
  obtain ⟨s25, e25, f25, e1, e2, e3, he25, hf25, q25⟩ := mul_step32 hx2 hy5 he16 hf24
  rw [e1, e2, e3, show IntKind.i64.wrap (5 + 1) = 6 from by decide]
  clear e1 e2 e3
  apply hs2
  conv => whnf
  (repeat (first | (refine Cond.tt rfl ?_; conv => whnf) | (refine Cond.ff rfl ?_; conv => whnf) | (refine Pick.tt rfl ?_; conv => whnf) | (refine Pick.ff rfl ?_; conv => whnf) | (refine Need.mk (by decide) ?_; conv => whnf)))
  refine Called.mk _ _ (rhalf2 hx2 hx3) ?_
  conv => whnf
  (repeat (first | (refine Cond.tt rfl ?_; conv => whnf) | (refine Cond.ff rfl ?_; conv => whnf) | (refine Pick.tt rfl ?_; conv => whnf) | (refine Pick.ff rfl ?_; conv => whnf) | (refine Need.mk (by decide) ?_; conv => whnf)))
  refine Called.mk _ _ (rhalf6 hy6 hy7) ?_
  conv => whnf
  (repeat (first | (refine Cond.tt rfl ?_; conv => whnf) | (refine Cond.ff rfl ?_; conv => whnf) | (refine Pick.tt rfl ?_; conv => whnf) | (refine Pick.ff rfl ?_; conv => whnf) | (refine Need.mk (by decide) ?_; conv => whnf)))
  obtain ⟨s26, e26, f26, e1, e2, e3, he26, hf26, q26⟩ := mul_step32 hx2 hy6 he17 hf25
  rw [e1, e2, e3, show IntKind.i64.wrap (6 + 1) = 7 from by decide]
  clear e1 e2 e3
  apply hs2
  conv => whnf
  (repeat (first | (refine Cond.tt rfl ?_; conv => whnf) | (refine Cond.ff rfl ?_; conv => whnf) | (refine Pick.tt rfl ?_; conv => whnf) | (refine Pick.ff rfl ?_; conv => whnf) | (refine Need.mk (by decide) ?_; conv => whnf)))
  refine Called.mk _ _ (rhalf2 hx2 hx3) ?_
  conv => whnf
  (repeat (first | (refine Cond.tt rfl ?_; conv => whnf) | (refine Cond.ff rfl ?_; conv => whnf) | (refine Pick.tt rfl ?_; conv => whnf) | (refine Pick.ff rfl ?_; conv => whnf) | (refine Need.mk (by decide) ?_; conv => whnf)))
  refine Called.mk _ _ (rhalf7 hy6 hy7) ?_
  conv => whnf
  (repeat (first | (refine Cond.tt rfl ?_; conv => whnf) | (refine Cond.ff rfl ?_; conv => whnf) | (refine Pick.tt rfl ?_; conv => whnf) | (refine Pick.ff rfl ?_; conv => whnf) | (refine Need.mk (by decide) ?_; conv => whnf)))
  obtain ⟨s27, e27, f27, e1, e2, e3, he27, hf27, q27⟩ := mul_step32 hx2 hy7 hf17 hf26
  rw [e1, e2, e3, show IntKind.i64.wrap (7 + 1) = 8 from by decide]
  clear e1 e2 e3
  apply hs2
  conv => whnf
  (repeat (first | (refine Cond.tt rfl ?_; conv => whnf) | (refine Cond.ff rfl ?_; conv => whnf) | (refine Pick.tt rfl ?_; conv => whnf) | (refine Pick.ff rfl ?_; conv => whnf) | (refine Need.mk (by decide) ?_; conv => whnf)))
  rw [show IntKind.i64.wrap (2 + 1) = 3 from by decide]
  have r2 : x2 * val8 y0 y1 y2 y3 y4 y5 y6 y7 + val8 e11 e12 e13 e14 e15 e16 e17 f17 = val8 e20 e21 e22 e23 e24 e25 e26 e27 + B4 * f27 := by
    rw [mul_val8]; unfold val8 B4
    clear hs hs2 hw hw2
    generalize x2 * y0 = p0 at *
    generalize x2 * y1 = p1 at *
    generalize x2 * y2 = p2 at *
    generalize x2 * y3 = p3 at *
    generalize x2 * y4 = p4 at *
    generalize x2 * y5 = p5 at *
    generalize x2 * y6 = p6 at *
    generalize x2 * y7 = p7 at *
    omega
  clear hs2 hw2 I2 q20 q21 q22 q23 q24 q25 q26 q27 hf20 hf21 hf22 hf23 hf24 hf25 hf26
  clear he11 he12 he13 he14 he15 he16 he17 hf17
  apply hs
  conv => whnf
  (repeat (first | (refine Cond.tt rfl ?_; conv => whnf) | (refine Cond.ff rfl ?_; conv => whnf) | (refine Pick.tt rfl ?_; conv => whnf) | (refine Pick.ff rfl ?_; conv => whnf) | (refine Need.mk (by decide) ?_; conv => whnf)))
  intro I3 hw3 hs3
  apply hs3
  conv => whnf
  (repeat (first | (refine Cond.tt rfl ?_; conv => whnf) | (refine Cond.ff rfl ?_; conv => whnf) | (refine Pick.tt rfl ?_; conv => whnf) | (refine Pick.ff rfl ?_; conv => whnf) | (refine Need.mk (by decide) ?_; conv => whnf)))
  refine Called.mk _ _ (rhalf3 hx2 hx3) ?_
  conv => whnf
  (repeat (first | (refine Cond.tt rfl ?_; conv => whnf) | (refine Cond.ff rfl ?_; conv => whnf) | (refine Pick.tt rfl ?_; conv => whnf) | (refine Pick.ff rfl ?_; conv => whnf) | (refine Need.mk (by decide) ?_; conv => whnf)))
  refine Called.mk _ _ (rhalf0 hy0 hy1) ?_
  conv => whnf
  (repeat (first | (refine Cond.tt rfl ?_; conv => whnf) | (refine Cond.ff rfl ?_; conv => whnf) | (refine Pick.tt rfl ?_; conv => whnf) | (refine Pick.ff rfl ?_; conv => whnf) | (refine Need.mk (by decide) ?_; conv => whnf)))
  obtain ⟨s30, e30, f30, e1, e2, e3, he30, hf30, q30⟩ := mul_step32 hx3 hy0 he21 hz
  rw [e1, e2, e3, show IntKind.i64.wrap (0 + 1) = 1 from by decide]
  clear e1 e2 e3
  apply hs3
  conv => whnf
  (repeat (first | (refine Cond.tt rfl ?_; conv => whnf) | (refine Cond.ff rfl ?_; conv => whnf) | (refine Pick.tt rfl ?_; conv => whnf) | (refine Pick.ff rfl ?_; conv => whnf) | (refine Need.mk (by decide) ?_; conv => whnf)))
  refine Called.mk _ _ (rhalf3 hx2 hx3) ?_
  conv => whnf
  (repeat (first | (refine Cond.tt rfl ?_; conv => whnf) | (refine Cond.ff rfl ?_; conv => whnf) | (refine Pick.tt rfl ?_; conv => whnf) | (refine Pick.ff rfl ?_; conv => whnf) | (refine Need.mk (by decide) ?_; conv => whnf)))
  refine Called.mk _ _ (rhalf1 hy0 hy1) ?_
  conv => whnf
  (repeat (first | (refine Cond.tt rfl ?_; conv => whnf) | (refine Cond.ff rfl ?_; conv => whnf) | (refine Pick.tt rfl ?_; conv => whnf) | (refine Pick.ff rfl ?_; conv => whnf) | (refine Need.mk (by decide) ?_; conv => whnf)))
  obtain ⟨s31, e31, f31, e1, e2, e3, he31, hf31, q31⟩ := mul_step32 hx3 hy1 he22 hf30
  rw [e1, e2, e3, show IntKind.i64.wrap (1 + 1) = 2 from by decide]
  clear e1 e2 e3
  apply hs3
  conv => whnf
  (repeat (first | (refine Cond.tt rfl ?_; conv => whnf) | (refine Cond.ff rfl ?_; conv => whnf) | (refine Pick.tt rfl ?_; conv => whnf) | (refine Pick.ff rfl ?_; conv => whnf) | (refine Need.mk (by decide) ?_; conv => whnf)))
  refine Called.mk _ _ (rhalf3 hx2 hx3) ?_
  conv => whnf
  (repeat (first | (refine Cond.tt rfl ?_; conv => whnf) | (refine Cond.ff rfl ?_; conv => whnf) | (refine Pick.tt rfl ?_; conv => whnf) | (refine Pick.ff rfl ?_; conv => whnf) | (refine Need.mk (by decide) ?_; conv => whnf)))
  refine Called.mk _ _ (rhalf2 hy2 hy3) ?_
  conv => whnf
  (repeat (first | (refine Cond.tt rfl ?_; conv => whnf) | (refine Cond.ff rfl ?_; conv => whnf) | (refine Pick.tt rfl ?_; conv => whnf) | (refine Pick.ff rfl ?_; conv => whnf) | (refine Need.mk (by decide) ?_; conv => whnf)))
  obtain ⟨s32, e32, f32, e1, e2, e3, he32, hf32, q32⟩ := mul_step32 hx3 hy2 he23 hf31
  rw [e1, e2, e3, show IntKind.i64.wrap (2 + 1) = 3 from by decide]
  clear e1 e2 e3
  apply hs3
  conv => whnf
  (repeat (first | (refine Cond.tt rfl ?_; conv => whnf) | (refine Cond.ff rfl ?_; conv => whnf) | (refine Pick.tt rfl ?_; conv => whnf) | (refine Pick.ff rfl ?_; conv => whnf) | (refine Need.mk (by decide) ?_; conv => whnf)))
  refine Called.mk _ _ (rhalf3 hx2 hx3) ?_
  conv => whnf
  (repeat (first | (refine Cond.tt rfl ?_; conv => whnf) | (refine Cond.ff rfl ?_; conv => whnf) | (refine Pick.tt rfl ?_; conv => whnf) | (refine Pick.ff rfl ?_; conv => whnf) | (refine Need.mk (by decide) ?_; conv => whnf)))
  refine Called.mk _ _ (rhalf3 hy2 hy3) ?_
  conv => whnf
  (repeat (first | (refine Cond.tt rfl ?_; conv => whnf) | (refine Cond.ff rfl ?_; conv => whnf) | (refine Pick.tt rfl ?_; conv => whnf) | (refine Pick.ff rfl ?_; conv => whnf) | (refine Need.mk (by decide) ?_; conv => whnf)))
  obtain ⟨s33, e33, f33, e1, e2, e3, he33, hf33, q33⟩ := mul_step32 hx3 hy3 he24 hf32
  rw [e1, e2, e3, show IntKind.i64.wrap (3 + 1) = 4 from by decide]
  clear e1 e2 e3
  apply hs3
  conv => whnf
  (repeat (first | (refine Cond.tt rfl ?_; conv => whnf) | (refine Cond.ff rfl ?_; conv => whnf) | (refine Pick.tt rfl ?_; conv => whnf) | (refine Pick.ff rfl ?_; conv => whnf) | (refine Need.mk (by decide) ?_; conv => whnf)))
  refine Called.mk _ _ (rhalf3 hx2 hx3) ?_
  conv => whnf
  (repeat (first | (refine Cond.tt rfl ?_; conv => whnf) | (refine Cond.ff rfl ?_; conv => whnf) | (refine Pick.tt rfl ?_; conv => whnf) | (refine Pick.ff rfl ?_; conv => whnf) | (refine Need.mk (by decide) ?_; conv => whnf)))
  refine Called.mk _ _ (rhalf4 hy4 hy5) ?_
  conv => whnf
  (repeat (first | (refine Cond.tt rfl ?_; conv => whnf) | (refine Cond.ff rfl ?_; conv => whnf) | (refine Pick.tt rfl ?_; conv => whnf) | (refine Pick.ff rfl ?_; conv => whnf) | (refine Need.mk (by decide) ?_; conv => whnf)))
  obtain ⟨s34, e34, f34, e1, e2, e3, he34, hf34, q34⟩ := mul_step32 hx3 hy4 he25 hf33
  rw [e1, e2, e3, show IntKind.i64.wrap (4 + 1) = 5 from by decide]
  clear e1 e2 e3
  apply hs3
  conv => whnf
  (repeat (first | (refine Cond.tt rfl ?_; conv => whnf) | (refine Cond.ff rfl ?_; conv => whnf) | (refine Pick.tt rfl ?_; conv => whnf) | (refine Pick.ff rfl ?_; conv => whnf) | (refine Need.mk (by decide) ?_; conv => whnf)))
  refine Called.mk _ _ (rhalf3 hx2 hx3) ?_
  conv => whnf
  (repeat (first | (refine Cond.tt rfl ?_; conv => whnf) | (refine Cond.ff rfl ?_; conv => whnf) | (refine Pick.tt rfl ?_; conv => whnf) | (refine Pick.ff rfl ?_; conv => whnf) | (refine Need.mk (by decide) ?_; conv => whnf)))
  refine Called.mk _ _ (rhalf5 hy4 hy5) ?_
  conv => whnf
  (repeat (first | (refine Cond.tt rfl ?_; conv => whnf) | (refine Cond.ff rfl ?_; conv => whnf) | (refine Pick.tt rfl ?_; conv => whnf) | (refine Pick.ff rfl ?_; conv => whnf) | (refine Need.mk (by decide) ?_; conv => whnf)))
  obtain ⟨s35, e35, f35, e1, e2, e3, he35, hf35, q35⟩ := mul_step32 hx3 hy5 he26 hf34
  rw [e1, e2, e3, show IntKind.i64.wrap (5 + 1) = 6 from by decide]
  clear e1 e2 e3
  apply hs3
  conv => whnf
  (repeat (first | (refine Cond.tt rfl ?_; conv => whnf) | (refine Cond.ff rfl ?_; conv => whnf) | (refine Pick.tt rfl ?_; conv => whnf) | (refine Pick.ff rfl ?_; conv => whnf) | (refine Need.mk (by decide) ?_; conv => whnf)))
  refine Called.mk _ _ (rhalf3 hx2 hx3) ?_
  conv => whnf
  (repeat (first | (refine Cond.tt rfl ?_; conv => whnf) | (refine Cond.ff rfl ?_; conv => whnf) | (refine Pick.tt rfl ?_; conv => whnf) | (refine Pick.ff rfl ?_; conv => whnf) | (refine Need.mk (by decide) ?_; conv => whnf)))
  refine Called.mk _ _ (rhalf6 hy6 hy7) ?_
  conv => whnf
  (repeat (first | (refine Cond.tt rfl ?_; conv => whnf) | (refine Cond.ff rfl ?_; conv => whnf) | (refine Pick.tt rfl ?_; conv => whnf) | (refine Pick.ff rfl ?_; conv => whnf) | (refine Need.mk (by decide) ?_; conv => whnf)))
  obtain ⟨s36, e36, f36, e1, e2, e3, he36, hf36, q36⟩ := mul_step32 hx3 hy6 he27 hf35
  rw [e1, e2, e3, show IntKind.i64.wrap (6 + 1) = 7 from by decide]
  clear e1 e2 e3
  apply hs3
  conv => whnf
  (repeat (first | (refine Cond.tt rfl ?_; conv => whnf) | (refine Cond.ff rfl ?_; conv => whnf) | (refine Pick.tt rfl ?_; conv => whnf) | (refine Pick.ff rfl ?_; conv => whnf) | (refine Need.mk (by decide) ?_; conv => whnf)))
  refine Called.mk _ _ (rhalf3 hx2 hx3) ?_
  conv => whnf
  (repeat (first | (refine Cond.tt rfl ?_; conv => whnf) | (refine Cond.ff rfl ?_; conv => whnf) | (refine Pick.tt rfl ?_; conv => whnf) | (refine Pick.ff rfl ?_; conv => whnf) | (refine Need.mk (by decide) ?_; conv => whnf)))
  refine Called.mk _ _ (rhalf7 hy6 hy7) ?_
  conv => whnf
  (repeat (first | (refine Cond.tt rfl ?_; conv => whnf) | (refine Cond.ff rfl ?_; conv => whnf) | (refine Pick.tt rfl ?_; conv => whnf) | (refine Pick.ff rfl ?_; conv => whnf) | (refine Need.mk (by decide) ?_; conv => whnf)))
  obtain ⟨s37, e37, f37, e1, e2, e3, he37, hf37, q37⟩ := mul_step32 hx3 hy7 hf27 hf36
  rw [e1, e2, e3, show IntKind.i64.wrap (7 + 1) = 8 from by decide]
  clear e1 e2 e3
  apply hs3
  conv => whnf
  (repeat (first | (refine Cond.tt rfl ?_; conv => whnf) | (refine Cond.ff rfl ?_; conv => whnf) | (refine Pick.tt rfl ?_; conv => whnf) | (refine Pick.ff rfl ?_; conv => whnf) | (refine Need.mk (by decide) ?_; conv => whnf)))
  rw [show IntKind.i64.wrap (3 + 1) = 4 from by decide]
  have r3 : x3 * val8 y0 y1 y2 y3 y4 y5 y6 y7 + val8 e21 e22 e23 e24 e25 e26 e27 f27 = val8 e30 e31 e32 e33 e34 e35 e36 e37 + B4 * f37 := by
    rw [mul_val8]; unfold val8 B4
    clear hs hs3 hw hw3
    generalize x3 * y0 = p0 at *
    generalize x3 * y1 = p1 at *
    generalize x3 * y2 = p2 at *
    generalize x3 * y3 = p3 at *
    generalize x3 * y4 = p4 at *
    generalize x3 * y5 = p5 at *
    generalize x3 * y6 = p6 at *
    generalize x3 * y7 = p7 at *
    omega
  clear hs3 hw3 I3 q30 q31 q32 q33 q34 q35 q36 q37 hf30 hf31 hf32 hf33 hf34 hf35 hf36
  clear he21 he22 he23 he24 he25 he26 he27 hf27
  apply hs
  conv => whnf
  (repeat (first | (refine Cond.tt rfl ?_; conv => whnf) | (refine Cond.ff rfl ?_; conv => whnf) | (refine Pick.tt rfl ?_; conv => whnf) | (refine Pick.ff rfl ?_; conv => whnf) | (refine Need.mk (by decide) ?_; conv => whnf)))
  intro I4 hw4 hs4
  apply hs4
  conv => whnf
  (repeat (first | (refine Cond.tt rfl ?_; conv => whnf) | (refine Cond.ff rfl ?_; conv => whnf) | (refine Pick.tt rfl ?_; conv => whnf) | (refine Pick.ff rfl ?_; conv => whnf) | (refine Need.mk (by decide) ?_; conv => whnf)))
  refine Called.mk _ _ (rhalf4 hx4 hx5) ?_
  conv => whnf
  (repeat (first | (refine Cond.tt rfl ?_; conv => whnf) | (refine Cond.ff rfl ?_; conv => whnf) | (refine Pick.tt rfl ?_; conv => whnf) | (refine Pick.ff rfl ?_; conv => whnf) | (refine Need.mk (by decide) ?_; conv => whnf)))
  refine Called.mk _ _ (rhalf0 hy0 hy1) ?_
  conv => whnf
  (repeat (first | (refine Cond.tt rfl ?_; conv => whnf) | (refine Cond.ff rfl ?_; conv => whnf) | (refine Pick.tt rfl ?_; conv => whnf) | (refine Pick.ff rfl ?_; conv => whnf) | (refine Need.mk (by decide) ?_; conv => whnf)))
  obtain ⟨s40, e40, f40, e1, e2, e3, he40, hf40, q40⟩ := mul_step32 hx4 hy0 he31 hz
  rw [e1, e2, e3, show IntKind.i64.wrap (0 + 1) = 1 from by decide]
  clear e1 e2 e3
  apply hs4
  conv => whnf
  (repeat (first | (refine Cond.tt rfl ?_; conv => whnf) | (refine Cond.ff rfl ?_; conv => whnf) | (refine Pick.tt rfl ?_; conv => whnf) | (refine Pick.ff rfl ?_; conv => whnf) | (refine Need.mk (by decide) ?_; conv => whnf)))
  refine Called.mk _ _ (rhalf4 hx4 hx5) ?_
  conv => whnf
  (repeat (first | (refine Cond.tt rfl ?_; conv => whnf) | (refine Cond.ff rfl ?_; conv => whnf) | (refine Pick.tt rfl ?_; conv => whnf) | (refine Pick.ff rfl ?_; conv => whnf) | (refine Need.mk (by decide) ?_; conv => whnf)))
  refine Called.mk _ _ (rhalf1 hy0 hy1) ?_
  conv => whnf
  (repeat (first | (refine Cond.tt rfl ?_; conv => whnf) | (refine Cond.ff rfl ?_; conv => whnf) | (refine Pick.tt rfl ?_; conv => whnf) | (refine Pick.ff rfl ?_; conv => whnf) | (refine Need.mk (by decide) ?_; conv => whnf)))
  obtain ⟨s41, e41, f41, e1, e2, e3, he41, hf41, q41⟩ := mul_step32 hx4 hy1 he32 hf40
  rw [e1, e2, e3, show IntKind.i64.wrap (1 + 1) = 2 from by decide]
  clear e1 e2 e3
  apply hs4
  conv => whnf
  (repeat (first | (refine Cond.tt rfl ?_; conv => whnf) | (refine Cond.ff rfl ?_; conv => whnf) | (refine Pick.tt rfl ?_; conv => whnf) | (refine Pick.ff rfl ?_; conv => whnf) | (refine Need.mk (by decide) ?_; conv => whnf)))
  refine Called.mk _ _ (rhalf4 hx4 hx5) ?_
  conv => whnf
  (repeat (first | (refine Cond.tt rfl ?_; conv => whnf) | (refine Cond.ff rfl ?_; conv => whnf) | (refine Pick.tt rfl ?_; conv => whnf) | (refine Pick.ff rfl ?_; conv => whnf) | (refine Need.mk (by decide) ?_; conv => whnf)))
  refine Called.mk _ _ (rhalf2 hy2 hy3) ?_
  conv => whnf
  (repeat (first | (refine Cond.tt rfl ?_; conv => whnf) | (refine Cond.ff rfl ?_; conv => whnf) | (refine Pick.tt rfl ?_; conv => whnf) | (refine Pick.ff rfl ?_; conv => whnf) | (refine Need.mk (by decide) ?_; conv => whnf)))
  obtain ⟨s42, e42, f42, e1, e2, e3, he42, hf42, q42⟩ := mul_step32 hx4 hy2 he33 hf41
  rw [e1, e2, e3, show IntKind.i64.wrap (2 + 1) = 3 from by decide]
  clear e1 e2 e3
  apply hs4
  conv => whnf
  (repeat (first | (refine Cond.tt rfl ?_; conv => whnf) | (refine Cond.ff rfl ?_; conv => whnf) | (refine Pick.tt rfl ?_; conv => whnf) | (refine Pick.ff rfl ?_; conv => whnf) | (refine Need.mk (by decide) ?_; conv => whnf)))
  refine Called.mk _ _ (rhalf4 hx4 hx5) ?_
  conv => whnf
  (repeat (first | (refine Cond.tt rfl ?_; conv => whnf) | (refine Cond.ff rfl ?_; conv => whnf) | (refine Pick.tt rfl ?_; conv => whnf) | (refine Pick.ff rfl ?_; conv => whnf) | (refine Need.mk (by decide) ?_; conv => whnf)))
  refine Called.mk _ _ (rhalf3 hy2 hy3) ?_
  conv => whnf
  (repeat (first | (refine Cond.tt rfl ?_; conv => whnf) | (refine Cond.ff rfl ?_; conv => whnf) | (refine Pick.tt rfl ?_; conv => whnf) | (refine Pick.ff rfl ?_; conv => whnf) | (refine Need.mk (by decide) ?_; conv => whnf)))
  obtain ⟨s43, e43, f43, e1, e2, e3, he43, hf43, q43⟩ := mul_step32 hx4 hy3 he34 hf42
  rw [e1, e2, e3, show IntKind.i64.wrap (3 + 1) = 4 from by decide]
  clear e1 e2 e3
  apply hs4
  conv => whnf
  (repeat (first | (refine Cond.tt rfl ?_; conv => whnf) | (refine Cond.ff rfl ?_; conv => whnf) | (refine Pick.tt rfl ?_; conv => whnf) | (refine Pick.ff rfl ?_; conv => whnf) | (refine Need.mk (by decide) ?_; conv => whnf)))
  refine Called.mk _ _ (rhalf4 hx4 hx5) ?_
  conv => whnf
  (repeat (first | (refine Cond.tt rfl ?_; conv => whnf) | (refine Cond.ff rfl ?_; conv => whnf) | (refine Pick.tt rfl ?_; conv => whnf) | (refine Pick.ff rfl ?_; conv => whnf) | (refine Need.mk (by decide) ?_; conv => whnf)))
  refine Called.mk _ _ (rhalf4 hy4 hy5) ?_
  conv => whnf
  (repeat (first | (refine Cond.tt rfl ?_; conv => whnf) | (refine Cond.ff rfl ?_; conv => whnf) | (refine Pick.tt rfl ?_; conv => whnf) | (refine Pick.ff rfl ?_; conv => whnf) | (refine Need.mk (by decide) ?_; conv => whnf)))
  obtain ⟨s44, e44, f44, e1, e2, e3, he44, hf44, q44⟩ := mul_step32 hx4 hy4 he35 hf43
  rw [e1, e2, e3, show IntKind.i64.wrap (4 + 1) = 5 from by decide]
  clear e1 e2 e3
  apply hs4
  conv => whnf
  (repeat (first | (refine Cond.tt rfl ?_; conv => whnf) | (refine Cond.ff rfl ?_; conv => whnf) | (refine Pick.tt rfl ?_; conv => whnf) | (refine Pick.ff rfl ?_; conv => whnf) | (refine Need.mk (by decide) ?_; conv => whnf)))
  refine Called.mk _ _ (rhalf4 hx4 hx5) ?_
  conv => whnf
  (repeat (first | (refine Cond.tt rfl ?_; conv => whnf) | (refine Cond.ff rfl ?_; conv => whnf) | (refine Pick.tt rfl ?_; conv => whnf) | (refine Pick.ff rfl ?_; conv => whnf) | (refine Need.mk (by decide) ?_; conv => whnf)))
  refine Called.mk _ _ (rhalf5 hy4 hy5) ?_
  conv => whnf
  (repeat (first | (refine Cond.tt rfl ?_; conv => whnf) | (refine Cond.ff rfl ?_; conv => whnf) | (refine Pick.tt rfl ?_; conv => whnf) | (refine Pick.ff rfl ?_; conv => whnf) | (refine Need.mk (by decide) ?_; conv => whnf)))
  obtain ⟨s45, e45, f45, e1, e2, e3, he45, hf45, q45⟩ := mul_step32 hx4 hy5 he36 hf44
  rw [e1, e2, e3, show IntKind.i64.wrap (5 + 1) = 6 from by decide]
  clear e1 e2 e3
  apply hs4
  conv => whnf
  (repeat (first | (refine Cond.tt rfl ?_; conv => whnf) | (refine Cond.ff rfl ?_; conv => whnf) | (refine Pick.tt rfl ?_; conv => whnf) | (refine Pick.ff rfl ?_; conv => whnf) | (refine Need.mk (by decide) ?_; conv => whnf)))
  refine Called.mk _ _ (rhalf4 hx4 hx5) ?_
  conv => whnf
  (repeat (first | (refine Cond.tt rfl ?_; conv => whnf) | (refine Cond.ff rfl ?_; conv => whnf) | (refine Pick.tt rfl ?_; conv => whnf) | (refine Pick.ff rfl ?_; conv => whnf) | (refine Need.mk (by decide) ?_; conv => whnf)))
  refine Called.mk _ _ (rhalf6 hy6 hy7) ?_
  conv => whnf
  (repeat (first | (refine Cond.tt rfl ?_; conv => whnf) | (refine Cond.ff rfl ?_; conv => whnf) | (refine Pick.tt rfl ?_; conv => whnf) | (refine Pick.ff rfl ?_; conv => whnf) | (refine Need.mk (by decide) ?_; conv => whnf)))
  obtain ⟨s46, e46, f46, e1, e2, e3, he46, hf46, q46⟩ := mul_step32 hx4 hy6 he37 hf45
  rw [e1, e2, e3, show IntKind.i64.wrap (6 + 1) = 7 from by decide]
  clear e1 e2 e3
  apply hs4
  conv => whnf
  (repeat (first | (refine Cond.tt rfl ?_; conv => whnf) | (refine Cond.ff rfl ?_; conv => whnf) | (refine Pick.tt rfl ?_; conv => whnf) | (refine Pick.ff rfl ?_; conv => whnf) | (refine Need.mk (by decide) ?_; conv => whnf)))
  refine Called.mk _ _ (rhalf4 hx4 hx5) ?_
  conv => whnf
  (repeat (first | (refine Cond.tt rfl ?_; conv => whnf) | (refine Cond.ff rfl ?_; conv => whnf) | (refine Pick.tt rfl ?_; conv => whnf) | (refine Pick.ff rfl ?_; conv => whnf) | (refine Need.mk (by decide) ?_; conv => whnf)))
  refine Called.mk _ _ (rhalf7 hy6 hy7) ?_
  conv => whnf
  (repeat (first | (refine Cond.tt rfl ?_; conv => whnf) | (refine Cond.ff rfl ?_; conv => whnf) | (refine Pick.tt rfl ?_; conv => whnf) | (refine Pick.ff rfl ?_; conv => whnf) | (refine Need.mk (by decide) ?_; conv => whnf)))
  obtain ⟨s47, e47, f47, e1, e2, e3, he47, hf47, q47⟩ := mul_step32 hx4 hy7 hf37 hf46
  rw [e1, e2, e3, show IntKind.i64.wrap (7 + 1) = 8 from by decide]
  clear e1 e2 e3
  apply hs4
  conv => whnf
  (repeat (first | (refine Cond.tt rfl ?_; conv => whnf) | (refine Cond.ff rfl ?_; conv => whnf) | (refine Pick.tt rfl ?_; conv => whnf) | (refine Pick.ff rfl ?_; conv => whnf) | (refine Need.mk (by decide) ?_; conv => whnf)))
  rw [show IntKind.i64.wrap (4 + 1) = 5 from by decide]
  have r4 : x4 * val8 y0 y1 y2 y3 y4 y5 y6 y7 + val8 e31 e32 e33 e34 e35 e36 e37 f37 = val8 e40 e41 e42 e43 e44 e45 e46 e47 + B4 * f47 := by
    rw [mul_val8]; unfold val8 B4
    clear hs hs4 hw hw4
    generalize x4 * y0 = p0 at *
    generalize x4 * y1 = p1 at *
    generalize x4 * y2 = p2 at *
    generalize x4 * y3 = p3 at *
    generalize x4 * y4 = p4 at *
    generalize x4 * y5 = p5 at *
    generalize x4 * y6 = p6 at *
    generalize x4 * y7 = p7 at *
    omega
  clear hs4 hw4 I4 q40 q41 q42 q43 q44 q45 q46 q47 hf40 hf41 hf42 hf43 hf44 hf45 hf46
  clear he31 he32 he33 he34 he35 he36 he37 hf37
  apply hs
  conv => whnf
  (repeat (first | (refine Cond.tt rfl ?_; conv => whnf) | (refine Cond.ff rfl ?_; conv => whnf) | (refine Pick.tt rfl ?_; conv => whnf) | (refine Pick.ff rfl ?_; conv => whnf) | (refine Need.mk (by decide) ?_; conv => whnf)))
  intro I5 hw5 hs5
  apply hs5
  conv => whnf
  (repeat (first | (refine Cond.tt rfl ?_; conv => whnf) | (refine Cond.ff rfl ?_; conv => whnf) | (refine Pick.tt rfl ?_; conv => whnf) | (refine Pick.ff rfl ?_; conv => whnf) | (refine Need.mk (by decide) ?_; conv => whnf)))
  refine Called.mk _ _ (rhalf5 hx4 hx5) ?_
  conv => whnf
  (repeat (first | (refine Cond.tt rfl ?_; conv => whnf) | (refine Cond.ff rfl ?_; conv => whnf) | (refine Pick.tt rfl ?_; conv => whnf) | (refine Pick.ff rfl ?_; conv => whnf) | (refine Need.mk (by decide) ?_; conv => whnf)))
  refine Called.mk _ _ (rhalf0 hy0 hy1) ?_
  conv => whnf
  (repeat (first | (refine Cond.tt rfl ?_; conv => whnf) | (refine Cond.ff rfl ?_; conv => whnf) | (refine Pick.tt rfl ?_; conv => whnf) | (refine Pick.ff rfl ?_; conv => whnf) | (refine Need.mk (by decide) ?_; conv => whnf)))
  obtain ⟨s50, e50, f50, e1, e2, e3, he50, hf50, q50⟩ := mul_step32 hx5 hy0 he41 hz
  rw [e1, e2, e3, show IntKind.i64.wrap (0 + 1) = 1 from by decide]
  clear e1 e2 e3
  apply hs5
  conv => whnf
  (repeat (first | (refine Cond.tt rfl ?_; conv => whnf) | (refine Cond.ff rfl ?_; conv => whnf) | (refine Pick.tt rfl ?_; conv => whnf) | (refine Pick.ff rfl ?_; conv => whnf) | (refine Need.mk (by decide) ?_; conv => whnf)))
  refine Called.mk _ _ (rhalf5 hx4 hx5) ?_
  conv => whnf
  (repeat (first | (refine Cond.tt rfl ?_; conv => whnf) | (refine Cond.ff rfl ?_; conv => whnf) | (refine Pick.tt rfl ?_; conv => whnf) | (refine Pick.ff rfl ?_; conv => whnf) | (refine Need.mk (by decide) ?_; conv => whnf)))
  refine Called.mk _ _ (rhalf1 hy0 hy1) ?_
  conv => whnf
  (repeat (first | (refine Cond.tt rfl ?_; conv => whnf) | (refine Cond.ff rfl ?_; conv => whnf) | (refine Pick.tt rfl ?_; conv => whnf) | (refine Pick.ff rfl ?_; conv => whnf) | (refine Need.mk (by decide) ?_; conv => whnf)))
  obtain ⟨s51, e51, f51, e1, e2, e3, he51, hf51, q51⟩ := mul_step32 hx5 hy1 he42 hf50
  rw [e1, e2, e3, show IntKind.i64.wrap (1 + 1) = 2 from by decide]
  clear e1 e2 e3
  apply hs5
  conv => whnf
  (repeat (first | (refine Cond.tt rfl ?_; conv => whnf) | (refine Cond.ff rfl ?_; conv => whnf) | (refine Pick.tt rfl ?_; conv => whnf) | (refine Pick.ff rfl ?_; conv => whnf) | (refine Need.mk (by decide) ?_; conv => whnf)))
  refine Called.mk _ _ (rhalf5 hx4 hx5) ?_
  conv => whnf
  (repeat (first | (refine Cond.tt rfl ?_; conv => whnf) | (refine Cond.ff rfl ?_; conv => whnf) | (refine Pick.tt rfl ?_; conv => whnf) | (refine Pick.ff rfl ?_; conv => whnf) | (refine Need.mk (by decide) ?_; conv => whnf)))
  refine Called.mk _ _ (rhalf2 hy2 hy3) ?_
  conv => whnf
  (repeat (first | (refine Cond.tt rfl ?_; conv => whnf) | (refine Cond.ff rfl ?_; conv => whnf) | (refine Pick.tt rfl ?_; conv => whnf) | (refine Pick.ff rfl ?_; conv => whnf) | (refine Need.mk (by decide) ?_; conv => whnf)))
  obtain ⟨s52, e52, f52, e1, e2, e3, he52, hf52, q52⟩ := mul_step32 hx5 hy2 he43 hf51
  rw [e1, e2, e3, show IntKind.i64.wrap (2 + 1) = 3 from by decide]
  clear e1 e2 e3
  apply hs5
  conv => whnf
  (repeat (first | (refine Cond.tt rfl ?_; conv => whnf) | (refine Cond.ff rfl ?_; conv => whnf) | (refine Pick.tt rfl ?_; conv => whnf) | (refine Pick.ff rfl ?_; conv => whnf) | (refine Need.mk (by decide) ?_; conv => whnf)))
  refine Called.mk _ _ (rhalf5 hx4 hx5) ?_
  conv => whnf
  (repeat (first | (refine Cond.tt rfl ?_; conv => whnf) | (refine Cond.ff rfl ?_; conv => whnf) | (refine Pick.tt rfl ?_; conv => whnf) | (refine Pick.ff rfl ?_; conv => whnf) | (refine Need.mk (by decide) ?_; conv => whnf)))
  refine Called.mk _ _ (rhalf3 hy2 hy3) ?_
  conv => whnf
  (repeat (first | (refine Cond.tt rfl ?_; conv => whnf) | (refine Cond.ff rfl ?_; conv => whnf) | (refine Pick.tt rfl ?_; conv => whnf) | (refine Pick.ff rfl ?_; conv => whnf) | (refine Need.mk (by decide) ?_; conv => whnf)))
  obtain ⟨s53, e53, f53, e1, e2, e3, he53, hf53, q53⟩ := mul_step32 hx5 hy3 he44 hf52
  rw [e1, e2, e3, show IntKind.i64.wrap (3 + 1) = 4 from by decide]
  clear e1 e2 e3
  apply hs5
  conv => whnf
  (repeat (first | (refine Cond.tt rfl ?_; conv => whnf) | (refine Cond.ff rfl ?_; conv => whnf) | (refine Pick.tt rfl ?_; conv => whnf) | (refine Pick.ff rfl ?_; conv => whnf) | (refine Need.mk (by decide) ?_; conv => whnf)))
  refine Called.mk _ _ (rhalf5 hx4 hx5) ?_
  conv => whnf
  (repeat (first | (refine Cond.tt rfl ?_; conv => whnf) | (refine Cond.ff rfl ?_; conv => whnf) | (refine Pick.tt rfl ?_; conv => whnf) | (refine Pick.ff rfl ?_; conv => whnf) | (refine Need.mk (by decide) ?_; conv => whnf)))
  refine Called.mk _ _ (rhalf4 hy4 hy5) ?_
  conv => whnf
  (repeat (first | (refine Cond.tt rfl ?_; conv => whnf) | (refine Cond.ff rfl ?_; conv => whnf) | (refine Pick.tt rfl ?_; conv => whnf) | (refine Pick.ff rfl ?_; conv => whnf) | (refine Need.mk (by decide) ?_; conv => whnf)))
  obtain ⟨s54, e54, f54, e1, e2, e3, he54, hf54, q54⟩ := mul_step32 hx5 hy4 he45 hf53
  rw [e1, e2, e3, show IntKind.i64.wrap (4 + 1) = 5 from by decide]
  clear e1 e2 e3
  apply hs5
  conv => whnf
  (repeat (first | (refine Cond.tt rfl ?_; conv => whnf) | (refine Cond.ff rfl ?_; conv => whnf) | (refine Pick.tt rfl ?_; conv => whnf) | (refine Pick.ff rfl ?_; conv => whnf) | (refine Need.mk (by decide) ?_; conv => whnf)))
  refine Called.mk _ _ (rhalf5 hx4 hx5) ?_
  conv => whnf
  (repeat (first | (refine Cond.tt rfl ?_; conv => whnf) | (refine Cond.ff rfl ?_; conv => whnf) | (refine Pick.tt rfl ?_; conv => whnf) | (refine Pick.ff rfl ?_; conv => whnf) | (refine Need.mk (by decide) ?_; conv => whnf)))
  refine Called.mk _ _ (rhalf5 hy4 hy5) ?_
  conv => whnf
  (repeat (first | (refine Cond.tt rfl ?_; conv => whnf) | (refine Cond.ff rfl ?_; conv => whnf) | (refine Pick.tt rfl ?_; conv => whnf) | (refine Pick.ff rfl ?_; conv => whnf) | (refine Need.mk (by decide) ?_; conv => whnf)))
  obtain ⟨s55, e55, f55, e1, e2, e3, he55, hf55, q55⟩ := mul_step32 hx5 hy5 he46 hf54
  rw [e1, e2, e3, show IntKind.i64.wrap (5 + 1) = 6 from by decide]
  clear e1 e2 e3
  apply hs5
  conv => whnf
  (repeat (first | (refine Cond.tt rfl ?_; conv => whnf) | (refine Cond.ff rfl ?_; conv => whnf) | (refine Pick.tt rfl ?_; conv => whnf) | (refine Pick.ff rfl ?_; conv => whnf) | (refine Need.mk (by decide) ?_; conv => whnf)))
  refine Called.mk _ _ (rhalf5 hx4 hx5) ?_
  conv => whnf
  (repeat (first | (refine Cond.tt rfl ?_; conv => whnf) | (refine Cond.ff rfl ?_; conv => whnf) | (refine Pick.tt rfl ?_; conv => whnf) | (refine Pick.ff rfl ?_; conv => whnf) | (refine Need.mk (by decide) ?_; conv => whnf)))
  refine Called.mk _ _ (rhalf6 hy6 hy7) ?_
  conv => whnf
  (repeat (first | (refine Cond.tt rfl ?_; conv => whnf) | (refine Cond.ff rfl ?_; conv => whnf) | (refine Pick.tt rfl ?_; conv => whnf) | (refine Pick.ff rfl ?_; conv => whnf) | (refine Need.mk (by decide) ?_; conv => whnf)))
  obtain ⟨s56, e56, f56, e1, e2, e3, he56, hf56, q56⟩ := mul_step32 hx5 hy6 he47 hf55
  rw [e1, e2, e3, show IntKind.i64.wrap (6 + 1) = 7 from by decide]
  clear e1 e2 e3
  apply hs5
  conv => whnf
  (repeat (first | (refine Cond.tt rfl ?_; conv => whnf) | (refine Cond.ff rfl ?_; conv => whnf) | (refine Pick.tt rfl ?_; conv => whnf) | (refine Pick.ff rfl ?_; conv => whnf) | (refine Need.mk (by decide) ?_; conv => whnf)))
  refine Called.mk _ _ (rhalf5 hx4 hx5) ?_
  conv => whnf
  (repeat (first | (refine Cond.tt rfl ?_; conv => whnf) | (refine Cond.ff rfl ?_; conv => whnf) | (refine Pick.tt rfl ?_; conv => whnf) | (refine Pick.ff rfl ?_; conv => whnf) | (refine Need.mk (by decide) ?_; conv => whnf)))
  refine Called.mk _ _ (rhalf7 hy6 hy7) ?_
  conv => whnf
  (repeat (first | (refine Cond.tt rfl ?_; conv => whnf) | (refine Cond.ff rfl ?_; conv => whnf) | (refine Pick.tt rfl ?_; conv => whnf) | (refine Pick.ff rfl ?_; conv => whnf) | (refine Need.mk (by decide) ?_; conv => whnf)))
  obtain ⟨s57, e57, f57, e1, e2, e3, he57, hf57, q57⟩ := mul_step32 hx5 hy7 hf47 hf56
  rw [e1, e2, e3, show IntKind.i64.wrap (7 + 1) = 8 from by decide]
  clear e1 e2 e3
  apply hs5
  conv => whnf
  (repeat (first | (refine Cond.tt rfl ?_; conv => whnf) | (refine Cond.ff rfl ?_; conv => whnf) | (refine Pick.tt rfl ?_; conv => whnf) | (refine Pick.ff rfl ?_; conv => whnf) | (refine Need.mk (by decide) ?_; conv => whnf)))
  rw [show IntKind.i64.wrap (5 + 1) = 6 from by decide]
  have r5 : x5 * val8 y0 y1 y2 y3 y4 y5 y6 y7 + val8 e41 e42 e43 e44 e45 e46 e47 f47 = val8 e50 e51 e52 e53 e54 e55 e56 e57 + B4 * f57 := by
    rw [mul_val8]; unfold val8 B4
    clear hs hs5 hw hw5
    generalize x5 * y0 = p0 at *
    generalize x5 * y1 = p1 at *
    generalize x5 * y2 = p2 at *
    generalize x5 * y3 = p3 at *
    generalize x5 * y4 = p4 at *
    generalize x5 * y5 = p5 at *
    generalize x5 * y6 = p6 at *
    generalize x5 * y7 = p7 at *
    omega
  clear hs5 hw5 I5 q50 q51 q52 q53 q54 q55 q56 q57 hf50 hf51 hf52 hf53 hf54 hf55 hf56
  clear he41 he42 he43 he44 he45 he46 he47 hf47
  apply hs
  conv => whnf
  (repeat (first | (refine Cond.tt rfl ?_; conv => whnf) | (refine Cond.ff rfl ?_; conv => whnf) | (refine Pick.tt rfl ?_; conv => whnf) | (refine Pick.ff rfl ?_; conv => whnf) | (refine Need.mk (by decide) ?_; conv => whnf)))
  intro I6 hw6 hs6
  apply hs6
  conv => whnf
  (repeat (first | (refine Cond.tt rfl ?_; conv => whnf) | (refine Cond.ff rfl ?_; conv => whnf) | (refine Pick.tt rfl ?_; conv => whnf) | (refine Pick.ff rfl ?_; conv => whnf) | (refine Need.mk (by decide) ?_; conv => whnf)))
  refine Called.mk _ _ (rhalf6 hx6 hx7) ?_
  conv => whnf
  (repeat (first | (refine Cond.tt rfl ?_; conv => whnf) | (refine Cond.ff rfl ?_; conv => whnf) | (refine Pick.tt rfl ?_; conv => whnf) | (refine Pick.ff rfl ?_; conv => whnf) | (refine Need.mk (by decide) ?_; conv => whnf)))
  refine Called.mk _ _ (rhalf0 hy0 hy1) ?_
  conv => whnf
  (repeat (first | (refine Cond.tt rfl ?_; conv => whnf) | (refine Cond.ff rfl ?_; conv => whnf) | (refine Pick.tt rfl ?_; conv => whnf) | (refine Pick.ff rfl ?_; conv => whnf) | (refine Need.mk (by decide) ?_; conv => whnf)))
  obtain ⟨s60, e60, f60, e1, e2, e3, he60, hf60, q60⟩ := mul_step32 hx6 hy0 he51 hz
  rw [e1, e2, e3, show IntKind.i64.wrap (0 + 1) = 1 from by decide]
  clear e1 e2 e3
  apply hs6
  conv => whnf
  (repeat (first | (refine Cond.tt rfl ?_; conv => whnf) | (refine Cond.ff rfl ?_; conv => whnf) | (refine Pick.tt rfl ?_; conv => whnf) | (refine Pick.ff rfl ?_; conv => whnf) | (refine Need.mk (by decide) ?_; conv => whnf)))
  refine Called.mk _ _ (rhalf6 hx6 hx7) ?_
  conv => whnf
  (repeat (first | (refine Cond.tt rfl ?_; conv => whnf) | (refine Cond.ff rfl ?_; conv => whnf) | (refine Pick.tt rfl ?_; conv => whnf) | (refine Pick.ff rfl ?_; conv => whnf) | (refine Need.mk (by decide) ?_; conv => whnf)))
  refine Called.mk _ _ (rhalf1 hy0 hy1) ?_
  conv => whnf
  (repeat (first | (refine Cond.tt rfl ?_; conv => whnf) | (refine Cond.ff rfl ?_; conv => whnf) | (refine Pick.tt rfl ?_; conv => whnf) | (refine Pick.ff rfl ?_; conv => whnf) | (refine Need.mk (by decide) ?_; conv => whnf)))
  obtain ⟨s61, e61, f61, e1, e2, e3, he61, hf61, q61⟩ := mul_step32 hx6 hy1 he52 hf60
  rw [e1, e2, e3, show IntKind.i64.wrap (1 + 1) = 2 from by decide]
  clear e1 e2 e3
  apply hs6
  conv => whnf
  (repeat (first | (refine Cond.tt rfl ?_; conv => whnf) | (refine Cond.ff rfl ?_; conv => whnf) | (refine Pick.tt rfl ?_; conv => whnf) | (refine Pick.ff rfl ?_; conv => whnf) | (refine Need.mk (by decide) ?_; conv => whnf)))
  refine Called.mk _ _ (rhalf6 hx6 hx7) ?_
  conv => whnf
  (repeat (first | (refine Cond.tt rfl ?_; conv => whnf) | (refine Cond.ff rfl ?_; conv => whnf) | (refine Pick.tt rfl ?_; conv => whnf) | (refine Pick.ff rfl ?_; conv => whnf) | (refine Need.mk (by decide) ?_; conv => whnf)))
  refine Called.mk _ _ (rhalf2 hy2 hy3) ?_
  conv => whnf
  (repeat (first | (refine Cond.tt rfl ?_; conv => whnf) | (refine Cond.ff rfl ?_; conv => whnf) | (refine Pick.tt rfl ?_; conv => whnf) | (refine Pick.ff rfl ?_; conv => whnf) | (refine Need.mk (by decide) ?_; conv => whnf)))
  obtain ⟨s62, e62, f62, e1, e2, e3, he62, hf62, q62⟩ := mul_step32 hx6 hy2 he53 hf61
  rw [e1, e2, e3, show IntKind.i64.wrap (2 + 1) = 3 from by decide]
  clear e1 e2 e3
  apply hs6
  conv => whnf
  (repeat (first | (refine Cond.tt rfl ?_; conv => whnf) | (refine Cond.ff rfl ?_; conv => whnf) | (refine Pick.tt rfl ?_; conv => whnf) | (refine Pick.ff rfl ?_; conv => whnf) | (refine Need.mk (by decide) ?_; conv => whnf)))
  refine Called.mk _ _ (rhalf6 hx6 hx7) ?_
  conv => whnf
  (repeat (first | (refine Cond.tt rfl ?_; conv => whnf) | (refine Cond.ff rfl ?_; conv => whnf) | (refine Pick.tt rfl ?_; conv => whnf) | (refine Pick.ff rfl ?_; conv => whnf) | (refine Need.mk (by decide) ?_; conv => whnf)))
  refine Called.mk _ _ (rhalf3 hy2 hy3) ?_
  conv => whnf
  (repeat (first | (refine Cond.tt rfl ?_; conv => whnf) | (refine Cond.ff rfl ?_; conv => whnf) | (refine Pick.tt rfl ?_; conv => whnf) | (refine Pick.ff rfl ?_; conv => whnf) | (refine Need.mk (by decide) ?_; conv => whnf)))
  obtain ⟨s63, e63, f63, e1, e2, e3, he63, hf63, q63⟩ := mul_step32 hx6 hy3 he54 hf62
  rw [e1, e2, e3, show IntKind.i64.wrap (3 + 1) = 4 from by decide]
  clear e1 e2 e3
  apply hs6
  conv => whnf
  (repeat (first | (refine Cond.tt rfl ?_; conv => whnf) | (refine Cond.ff rfl ?_; conv => whnf) | (refine Pick.tt rfl ?_; conv => whnf) | (refine Pick.ff rfl ?_; conv => whnf) | (refine Need.mk (by decide) ?_; conv => whnf)))
  refine Called.mk _ _ (rhalf6 hx6 hx7) ?_
  conv => whnf
  (repeat (first | (refine Cond.tt rfl ?_; conv => whnf) | (refine Cond.ff rfl ?_; conv => whnf) | (refine Pick.tt rfl ?_; conv => whnf) | (refine Pick.ff rfl ?_; conv => whnf) | (refine Need.mk (by decide) ?_; conv => whnf)))
  refine Called.mk _ _ (rhalf4 hy4 hy5) ?_
  conv => whnf
  (repeat (first | (refine Cond.tt rfl ?_; conv => whnf) | (refine Cond.ff rfl ?_; conv => whnf) | (refine Pick.tt rfl ?_; conv => whnf) | (refine Pick.ff rfl ?_; conv => whnf) | (refine Need.mk (by decide) ?_; conv => whnf)))
  obtain ⟨s64, e64, f64, e1, e2, e3, he64, hf64, q64⟩ := mul_step32 hx6 hy4 he55 hf63
  rw [e1, e2, e3, show IntKind.i64.wrap (4 + 1) = 5 from by decide]
  clear e1 e2 e3
  apply hs6
  conv => whnf
  (repeat (first | (refine Cond.tt rfl ?_; conv => whnf) | (refine Cond.ff rfl ?_; conv => whnf) | (refine Pick.tt rfl ?_; conv => whnf) | (refine Pick.ff rfl ?_; conv => whnf) | (refine Need.mk (by decide) ?_; conv => whnf)))
  refine Called.mk _ _ (rhalf6 hx6 hx7) ?_
  conv => whnf
  (repeat (first | (refine Cond.tt rfl ?_; conv => whnf) | (refine Cond.ff rfl ?_; conv => whnf) | (refine Pick.tt rfl ?_; conv => whnf) | (refine Pick.ff rfl ?_; conv => whnf) | (refine Need.mk (by decide) ?_; conv => whnf)))
  refine Called.mk _ _ (rhalf5 hy4 hy5) ?_
  conv => whnf
  (repeat (first | (refine Cond.tt rfl ?_; conv => whnf) | (refine Cond.ff rfl ?_; conv => whnf) | (refine Pick.tt rfl ?_; conv => whnf) | (refine Pick.ff rfl ?_; conv => whnf) | (refine Need.mk (by decide) ?_; conv => whnf)))
  obtain ⟨s65, e65, f65, e1, e2, e3, he65, hf65, q65⟩ := mul_step32 hx6 hy5 he56 hf64
  rw [e1, e2, e3, show IntKind.i64.wrap (5 + 1) = 6 from by decide]
  clear e1 e2 e3
  apply hs6
  conv => whnf
  (repeat (first | (refine Cond.tt rfl ?_; conv => whnf) | (refine Cond.ff rfl ?_; conv => whnf) | (refine Pick.tt rfl ?_; conv => whnf) | (refine Pick.ff rfl ?_; conv => whnf) | (refine Need.mk (by decide) ?_; conv => whnf)))
  refine Called.mk _ _ (rhalf6 hx6 hx7) ?_
  conv => whnf
  (repeat (first | (refine Cond.tt rfl ?_; conv => whnf) | (refine Cond.ff rfl ?_; conv => whnf) | (refine Pick.tt rfl ?_; conv => whnf) | (refine Pick.ff rfl ?_; conv => whnf) | (refine Need.mk (by decide) ?_; conv => whnf)))
  refine Called.mk _ _ (rhalf6 hy6 hy7) ?_
  conv => whnf
  (repeat (first | (refine Cond.tt rfl ?_; conv => whnf) | (refine Cond.ff rfl ?_; conv => whnf) | (refine Pick.tt rfl ?_; conv => whnf) | (refine Pick.ff rfl ?_; conv => whnf) | (refine Need.mk (by decide) ?_; conv => whnf)))
  obtain ⟨s66, e66, f66, e1, e2, e3, he66, hf66, q66⟩ := mul_step32 hx6 hy6 he57 hf65
  rw [e1, e2, e3, show IntKind.i64.wrap (6 + 1) = 7 from by decide]
  clear e1 e2 e3
  apply hs6
  conv => whnf
  (repeat (first | (refine Cond.tt rfl ?_; conv => whnf) | (refine Cond.ff rfl ?_; conv => whnf) | (refine Pick.tt rfl ?_; conv => whnf) | (refine Pick.ff rfl ?_; conv => whnf) | (refine Need.mk (by decide) ?_; conv => whnf)))
  refine Called.mk _ _ (rhalf6 hx6 hx7) ?_
  conv => whnf
  (repeat (first | (refine Cond.tt rfl ?_; conv => whnf) | (refine Cond.ff rfl ?_; conv => whnf) | (refine Pick.tt rfl ?_; conv => whnf) | (refine Pick.ff rfl ?_; conv => whnf) | (refine Need.mk (by decide) ?_; conv => whnf)))
  refine Called.mk _ _ (rhalf7 hy6 hy7) ?_
  conv => whnf
  (repeat (first | (refine Cond.tt rfl ?_; conv => whnf) | (refine Cond.ff rfl ?_; conv => whnf) | (refine Pick.tt rfl ?_; conv => whnf) | (refine Pick.ff rfl ?_; conv => whnf) | (refine Need.mk (by decide) ?_; conv => whnf)))
  obtain ⟨s67, e67, f67, e1, e2, e3, he67, hf67, q67⟩ := mul_step32 hx6 hy7 hf57 hf66
  rw [e1, e2, e3, show IntKind.i64.wrap (7 + 1) = 8 from by decide]
  clear e1 e2 e3
  apply hs6
  conv => whnf
  (repeat (first | (refine Cond.tt rfl ?_; conv => whnf) | (refine Cond.ff rfl ?_; conv => whnf) | (refine Pick.tt rfl ?_; conv => whnf) | (refine Pick.ff rfl ?_; conv => whnf) | (refine Need.mk (by decide) ?_; conv => whnf)))
  rw [show IntKind.i64.wrap (6 + 1) = 7 from by decide]
  have r6 : x6 * val8 y0 y1 y2 y3 y4 y5 y6 y7 + val8 e51 e52 e53 e54 e55 e56 e57 f57 = val8 e60 e61 e62 e63 e64 e65 e66 e67 + B4 * f67 := by
    rw [mul_val8]; unfold val8 B4
    clear hs hs6 hw hw6
    generalize x6 * y0 = p0 at *
    generalize x6 * y1 = p1 at *
    generalize x6 * y2 = p2 at *
    generalize x6 * y3 = p3 at *
    generalize x6 * y4 = p4 at *
    generalize x6 * y5 = p5 at *
    generalize x6 * y6 = p6 at *
    generalize x6 * y7 = p7 at *
    omega
  clear hs6 hw6 I6 q60 q61 q62 q63 q64 q65 q66 q67 hf60 hf61 hf62 hf63 hf64 hf65 hf66
  clear he51 he52 he53 he54 he55 he56 he57 hf57
  apply hs
  conv => whnf
  (repeat (first | (refine Cond.tt rfl ?_; conv => whnf) | (refine Cond.ff rfl ?_; conv => whnf) | (refine Pick.tt rfl ?_; conv => whnf) | (refine Pick.ff rfl ?_; conv => whnf) | (refine Need.mk (by decide) ?_; conv => whnf)))
  intro I7 hw7 hs7
  apply hs7
  conv => whnf
  (repeat (first | (refine Cond.tt rfl ?_; conv => whnf) | (refine Cond.ff rfl ?_; conv => whnf) | (refine Pick.tt rfl ?_; conv => whnf) | (refine Pick.ff rfl ?_; conv => whnf) | (refine Need.mk (by decide) ?_; conv => whnf)))
  refine Called.mk _ _ (rhalf7 hx6 hx7) ?_
  conv => whnf
  (repeat (first | (refine Cond.tt rfl ?_; conv => whnf) | (refine Cond.ff rfl ?_; conv => whnf) | (refine Pick.tt rfl ?_; conv => whnf) | (refine Pick.ff rfl ?_; conv => whnf) | (refine Need.mk (by decide) ?_; conv => whnf)))
  refine Called.mk _ _ (rhalf0 hy0 hy1) ?_
  conv => whnf
  (repeat (first | (refine Cond.tt rfl ?_; conv => whnf) | (refine Cond.ff rfl ?_; conv => whnf) | (refine Pick.tt rfl ?_; conv => whnf) | (refine Pick.ff rfl ?_; conv => whnf) | (refine Need.mk (by decide) ?_; conv => whnf)))
  obtain ⟨s70, e70, f70, e1, e2, e3, he70, hf70, q70⟩ := mul_step32 hx7 hy0 he61 hz
  rw [e1, e2, e3, show IntKind.i64.wrap (0 + 1) = 1 from by decide]
  clear e1 e2 e3
  apply hs7
  conv => whnf
  (repeat (first | (refine Cond.tt rfl ?_; conv => whnf) | (refine Cond.ff rfl ?_; conv => whnf) | (refine Pick.tt rfl ?_; conv => whnf) | (refine Pick.ff rfl ?_; conv => whnf) | (refine Need.mk (by decide) ?_; conv => whnf)))
  refine Called.mk _ _ (rhalf7 hx6 hx7) ?_
  conv => whnf
  (repeat (first | (refine Cond.tt rfl ?_; conv => whnf) | (refine Cond.ff rfl ?_; conv => whnf) | (refine Pick.tt rfl ?_; conv => whnf) | (refine Pick.ff rfl ?_; conv => whnf) | (refine Need.mk (by decide) ?_; conv => whnf)))
  refine Called.mk _ _ (rhalf1 hy0 hy1) ?_
  conv => whnf
  (repeat (first | (refine Cond.tt rfl ?_; conv => whnf) | (refine Cond.ff rfl ?_; conv => whnf) | (refine Pick.tt rfl ?_; conv => whnf) | (refine Pick.ff rfl ?_; conv => whnf) | (refine Need.mk (by decide) ?_; conv => whnf)))
  obtain ⟨s71, e71, f71, e1, e2, e3, he71, hf71, q71⟩ := mul_step32 hx7 hy1 he62 hf70
  rw [e1, e2, e3, show IntKind.i64.wrap (1 + 1) = 2 from by decide]
  clear e1 e2 e3
  apply hs7
  conv => whnf
  (repeat (first | (refine Cond.tt rfl ?_; conv => whnf) | (refine Cond.ff rfl ?_; conv => whnf) | (refine Pick.tt rfl ?_; conv => whnf) | (refine Pick.ff rfl ?_; conv => whnf) | (refine Need.mk (by decide) ?_; conv => whnf)))
  refine Called.mk _ _ (rhalf7 hx6 hx7) ?_
  conv => whnf
  (repeat (first | (refine Cond.tt rfl ?_; conv => whnf) | (refine Cond.ff rfl ?_; conv => whnf) | (refine Pick.tt rfl ?_; conv => whnf) | (refine Pick.ff rfl ?_; conv => whnf) | (refine Need.mk (by decide) ?_; conv => whnf)))
  refine Called.mk _ _ (rhalf2 hy2 hy3) ?_
  conv => whnf
  (repeat (first | (refine Cond.tt rfl ?_; conv => whnf) | (refine Cond.ff rfl ?_; conv => whnf) | (refine Pick.tt rfl ?_; conv => whnf) | (refine Pick.ff rfl ?_; conv => whnf) | (refine Need.mk (by decide) ?_; conv => whnf)))
  obtain ⟨s72, e72, f72, e1, e2, e3, he72, hf72, q72⟩ := mul_step32 hx7 hy2 he63 hf71
  rw [e1, e2, e3, show IntKind.i64.wrap (2 + 1) = 3 from by decide]
  clear e1 e2 e3
  apply hs7
  conv => whnf
  (repeat (first | (refine Cond.tt rfl ?_; conv => whnf) | (refine Cond.ff rfl ?_; conv => whnf) | (refine Pick.tt rfl ?_; conv => whnf) | (refine Pick.ff rfl ?_; conv => whnf) | (refine Need.mk (by decide) ?_; conv => whnf)))
  refine Called.mk _ _ (rhalf7 hx6 hx7) ?_
  conv => whnf
  (repeat (first | (refine Cond.tt rfl ?_; conv => whnf) | (refine Cond.ff rfl ?_; conv => whnf) | (refine Pick.tt rfl ?_; conv => whnf) | (refine Pick.ff rfl ?_; conv => whnf) | (refine Need.mk (by decide) ?_; conv => whnf)))
  refine Called.mk _ _ (rhalf3 hy2 hy3) ?_
  conv => whnf
  (repeat (first | (refine Cond.tt rfl ?_; conv => whnf) | (refine Cond.ff rfl ?_; conv => whnf) | (refine Pick.tt rfl ?_; conv => whnf) | (refine Pick.ff rfl ?_; conv => whnf) | (refine Need.mk (by decide) ?_; conv => whnf)))
  obtain ⟨s73, e73, f73, e1, e2, e3, he73, hf73, q73⟩ := mul_step32 hx7 hy3 he64 hf72
  rw [e1, e2, e3, show IntKind.i64.wrap (3 + 1) = 4 from by decide]
  clear e1 e2 e3
  apply hs7
  conv => whnf
  (repeat (first | (refine Cond.tt rfl ?_; conv => whnf) | (refine Cond.ff rfl ?_; conv => whnf) | (refine Pick.tt rfl ?_; conv => whnf) | (refine Pick.ff rfl ?_; conv => whnf) | (refine Need.mk (by decide) ?_; conv => whnf)))
  refine Called.mk _ _ (rhalf7 hx6 hx7) ?_
  conv => whnf
  (repeat (first | (refine Cond.tt rfl ?_; conv => whnf) | (refine Cond.ff rfl ?_; conv => whnf) | (refine Pick.tt rfl ?_; conv => whnf) | (refine Pick.ff rfl ?_; conv => whnf) | (refine Need.mk (by decide) ?_; conv => whnf)))
  refine Called.mk _ _ (rhalf4 hy4 hy5) ?_
  conv => whnf
  (repeat (first | (refine Cond.tt rfl ?_; conv => whnf) | (refine Cond.ff rfl ?_; conv => whnf) | (refine Pick.tt rfl ?_; conv => whnf) | (refine Pick.ff rfl ?_; conv => whnf) | (refine Need.mk (by decide) ?_; conv => whnf)))
  obtain ⟨s74, e74, f74, e1, e2, e3, he74, hf74, q74⟩ := mul_step32 hx7 hy4 he65 hf73
  rw [e1, e2, e3, show IntKind.i64.wrap (4 + 1) = 5 from by decide]
  clear e1 e2 e3
  apply hs7
  conv => whnf
  (repeat (first | (refine Cond.tt rfl ?_; conv => whnf) | (refine Cond.ff rfl ?_; conv => whnf) | (refine Pick.tt rfl ?_; conv => whnf) | (refine Pick.ff rfl ?_; conv => whnf) | (refine Need.mk (by decide) ?_; conv => whnf)))
  refine Called.mk _ _ (rhalf7 hx6 hx7) ?_
  conv => whnf
  (repeat (first | (refine Cond.tt rfl ?_; conv => whnf) | (refine Cond.ff rfl ?_; conv => whnf) | (refine Pick.tt rfl ?_; conv => whnf) | (refine Pick.ff rfl ?_; conv => whnf) | (refine Need.mk (by decide) ?_; conv => whnf)))
  refine Called.mk _ _ (rhalf5 hy4 hy5) ?_
  conv => whnf
  (repeat (first | (refine Cond.tt rfl ?_; conv => whnf) | (refine Cond.ff rfl ?_; conv => whnf) | (refine Pick.tt rfl ?_; conv => whnf) | (refine Pick.ff rfl ?_; conv => whnf) | (refine Need.mk (by decide) ?_; conv => whnf)))
  obtain ⟨s75, e75, f75, e1, e2, e3, he75, hf75, q75⟩ := mul_step32 hx7 hy5 he66 hf74
  rw [e1, e2, e3, show IntKind.i64.wrap (5 + 1) = 6 from by decide]
  clear e1 e2 e3
  apply hs7
  conv => whnf
  (repeat (first | (refine Cond.tt rfl ?_; conv => whnf) | (refine Cond.ff rfl ?_; conv => whnf) | (refine Pick.tt rfl ?_; conv => whnf) | (refine Pick.ff rfl ?_; conv => whnf) | (refine Need.mk (by decide) ?_; conv => whnf)))
  refine Called.mk _ _ (rhalf7 hx6 hx7) ?_
  conv => whnf
  (repeat (first | (refine Cond.tt rfl ?_; conv => whnf) | (refine Cond.ff rfl ?_; conv => whnf) | (refine Pick.tt rfl ?_; conv => whnf) | (refine Pick.ff rfl ?_; conv => whnf) | (refine Need.mk (by decide) ?_; conv => whnf)))
  refine Called.mk _ _ (rhalf6 hy6 hy7) ?_
  conv => whnf
  (repeat (first | (refine Cond.tt rfl ?_; conv => whnf) | (refine Cond.ff rfl ?_; conv => whnf) | (refine Pick.tt rfl ?_; conv => whnf) | (refine Pick.ff rfl ?_; conv => whnf) | (refine Need.mk (by decide) ?_; conv => whnf)))
  obtain ⟨s76, e76, f76, e1, e2, e3, he76, hf76, q76⟩ := mul_step32 hx7 hy6 he67 hf75
  rw [e1, e2, e3, show IntKind.i64.wrap (6 + 1) = 7 from by decide]
  clear e1 e2 e3
  apply hs7
  conv => whnf
  (repeat (first | (refine Cond.tt rfl ?_; conv => whnf) | (refine Cond.ff rfl ?_; conv => whnf) | (refine Pick.tt rfl ?_; conv => whnf) | (refine Pick.ff rfl ?_; conv => whnf) | (refine Need.mk (by decide) ?_; conv => whnf)))
  refine Called.mk _ _ (rhalf7 hx6 hx7) ?_
  conv => whnf
  (repeat (first | (refine Cond.tt rfl ?_; conv => whnf) | (refine Cond.ff rfl ?_; conv => whnf) | (refine Pick.tt rfl ?_; conv => whnf) | (refine Pick.ff rfl ?_; conv => whnf) | (refine Need.mk (by decide) ?_; conv => whnf)))
  refine Called.mk _ _ (rhalf7 hy6 hy7) ?_
  conv => whnf
  (repeat (first | (refine Cond.tt rfl ?_; conv => whnf) | (refine Cond.ff rfl ?_; conv => whnf) | (refine Pick.tt rfl ?_; conv => whnf) | (refine Pick.ff rfl ?_; conv => whnf) | (refine Need.mk (by decide) ?_; conv => whnf)))
  obtain ⟨s77, e77, f77, e1, e2, e3, he77, hf77, q77⟩ := mul_step32 hx7 hy7 hf67 hf76
  rw [e1, e2, e3, show IntKind.i64.wrap (7 + 1) = 8 from by decide]
  clear e1 e2 e3
  apply hs7
  conv => whnf
  (repeat (first | (refine Cond.tt rfl ?_; conv => whnf) | (refine Cond.ff rfl ?_; conv => whnf) | (refine Pick.tt rfl ?_; conv => whnf) | (refine Pick.ff rfl ?_; conv => whnf) | (refine Need.mk (by decide) ?_; conv => whnf)))
  rw [show IntKind.i64.wrap (7 + 1) = 8 from by decide]
  have r7 : x7 * val8 y0 y1 y2 y3 y4 y5 y6 y7 + val8 e61 e62 e63 e64 e65 e66 e67 f67 = val8 e70 e71 e72 e73 e74 e75 e76 e77 + B4 * f77 := by
    rw [mul_val8]; unfold val8 B4
    clear hs hs7 hw hw7
    generalize x7 * y0 = p0 at *
    generalize x7 * y1 = p1 at *
    generalize x7 * y2 = p2 at *
    generalize x7 * y3 = p3 at *
    generalize x7 * y4 = p4 at *
    generalize x7 * y5 = p5 at *
    generalize x7 * y6 = p6 at *
    generalize x7 * y7 = p7 at *
    omega
  clear hs7 hw7 I7 q70 q71 q72 q73 q74 q75 q76 q77 hf70 hf71 hf72 hf73 hf74 hf75 hf76
  clear he61 he62 he63 he64 he65 he66 he67 hf67
  apply hs
  conv => whnf
  (repeat (first | (refine Cond.tt rfl ?_; conv => whnf) | (refine Cond.ff rfl ?_; conv => whnf) | (refine Pick.tt rfl ?_; conv => whnf) | (refine Pick.ff rfl ?_; conv => whnf) | (refine Need.mk (by decide) ?_; conv => whnf)))
  intro J jw js
  apply js
  conv => whnf
  (repeat (first | (refine Cond.tt rfl ?_; conv => whnf) | (refine Cond.ff rfl ?_; conv => whnf) | (refine Pick.tt rfl ?_; conv => whnf) | (refine Pick.ff rfl ?_; conv => whnf) | (refine Need.mk (by decide) ?_; conv => whnf)))
  obtain ⟨e1, hl0⟩ := join32 he00 he10
  obtain ⟨e2, hh0⟩ := join32 he71 he72
  rw [e1, e2, show IntKind.i64.wrap (0 + 1) = 1 from by decide]
  clear e1 e2
  apply js
  conv => whnf
  (repeat (first | (refine Cond.tt rfl ?_; conv => whnf) | (refine Cond.ff rfl ?_; conv => whnf) | (refine Pick.tt rfl ?_; conv => whnf) | (refine Pick.ff rfl ?_; conv => whnf) | (refine Need.mk (by decide) ?_; conv => whnf)))
  obtain ⟨e1, hl1⟩ := join32 he20 he30
  obtain ⟨e2, hh1⟩ := join32 he73 he74
  rw [e1, e2, show IntKind.i64.wrap (1 + 1) = 2 from by decide]
  clear e1 e2
  apply js
  conv => whnf
  (repeat (first | (refine Cond.tt rfl ?_; conv => whnf) | (refine Cond.ff rfl ?_; conv => whnf) | (refine Pick.tt rfl ?_; conv => whnf) | (refine Pick.ff rfl ?_; conv => whnf) | (refine Need.mk (by decide) ?_; conv => whnf)))
  obtain ⟨e1, hl2⟩ := join32 he40 he50
  obtain ⟨e2, hh2⟩ := join32 he75 he76
  rw [e1, e2, show IntKind.i64.wrap (2 + 1) = 3 from by decide]
  clear e1 e2
  apply js
  conv => whnf
  (repeat (first | (refine Cond.tt rfl ?_; conv => whnf) | (refine Cond.ff rfl ?_; conv => whnf) | (refine Pick.tt rfl ?_; conv => whnf) | (refine Pick.ff rfl ?_; conv => whnf) | (refine Need.mk (by decide) ?_; conv => whnf)))
  obtain ⟨e1, hl3⟩ := join32 he60 he70
  obtain ⟨e2, hh3⟩ := join32 he77 hf77
  rw [e1, e2, show IntKind.i64.wrap (3 + 1) = 4 from by decide]
  clear e1 e2
  apply js
  conv => whnf
  (repeat (first | (refine Cond.tt rfl ?_; conv => whnf) | (refine Cond.ff rfl ?_; conv => whnf) | (refine Pick.tt rfl ?_; conv => whnf) | (refine Pick.ff rfl ?_; conv => whnf) | (refine Need.mk (by decide) ?_; conv => whnf)))
  clear hs hw js jw
  have hprod : val4 (x0 + 4294967296 * x1) (x2 + 4294967296 * x3) (x4 + 4294967296 * x5) (x6 + 4294967296 * x7) * val4 (y0 + 4294967296 * y1) (y2 + 4294967296 * y3) (y4 + 4294967296 * y5) (y6 + 4294967296 * y7) = val4 (e00 + 4294967296 * e10) (e20 + 4294967296 * e30) (e40 + 4294967296 * e50) (e60 + 4294967296 * e70) + B4 * val4 (e71 + 4294967296 * e72) (e73 + 4294967296 * e74) (e75 + 4294967296 * e76) (e77 + 4294967296 * f77) := by
    have ex : val4 (x0 + 4294967296 * x1) (x2 + 4294967296 * x3) (x4 + 4294967296 * x5) (x6 + 4294967296 * x7) = val8 x0 x1 x2 x3 x4 x5 x6 x7 := by unfold val4 val8; omega
    have ey : val4 (y0 + 4294967296 * y1) (y2 + 4294967296 * y3) (y4 + 4294967296 * y5) (y6 + 4294967296 * y7) = val8 y0 y1 y2 y3 y4 y5 y6 y7 := by unfold val4 val8; omega
    rw [ex, ey, val8_mul]
    generalize val8 y0 y1 y2 y3 y4 y5 y6 y7 = Y at *
    generalize x0 * Y = P0 at *
    generalize x1 * Y = P1 at *
    generalize x2 * Y = P2 at *
    generalize x3 * Y = P3 at *
    generalize x4 * Y = P4 at *
    generalize x5 * Y = P5 at *
    generalize x6 * Y = P6 at *
    generalize x7 * Y = P7 at *
    unfold val8 at r0 r1 r2 r3 r4 r5 r6 r7 ⊢
    unfold val4
    unfold B4 at *
    clear hl0 hl1 hl2 hl3 hh0 hh1 hh2 hh3 hz
    omega
  have hlow := W_val hl0 hl1 hl2 hl3
  have hhigh := W_val hh0 hh1 hh2 hh3
  rw [hprod]
  refine End.mk (tup_eq (cons_eq (natI_is hh0 hh1 hh2 hh3 ?_) (cons_eq (natI_is hl0 hl1 hl2 hl3 ?_) rfl))) rfl
  · generalize val4 (e00 + 4294967296 * e10) (e20 + 4294967296 * e30) (e40 + 4294967296 * e50) (e60 + 4294967296 * e70) = x at *
    generalize val4 (e71 + 4294967296 * e72) (e73 + 4294967296 * e74) (e75 + 4294967296 * e76) (e77 + 4294967296 * f77) = y at *
    unfold W B4 at *; clear hprod; omega
  · generalize val4 (e00 + 4294967296 * e10) (e20 + 4294967296 * e30) (e40 + 4294967296 * e50) (e60 + 4294967296 * e70) = x at *
    generalize val4 (e71 + 4294967296 * e72) (e73 + 4294967296 * e74) (e75 + 4294967296 * e76) (e77 + 4294967296 * f77) = y at *
    unfold W B4 at *; clear hprod; omega
end Go.Proofs.Ytafiechoplbieaa

set_option linter.unusedVariables false
set_option linter.unusedSimpArgs false
set_option maxRecDepth 100000
namespace Go.Proofs.Ytafiechoplbieaa
open Go.AM
theorem natI_mk (x : Int) : natI (x % B4) = eN (mkN x) := rfl
theorem mul_W (a b : N) : W (a.v * b.v / B4) := by
  have ha := a.h; have hb := b.h
  have h0 : 0 ≤ a.v * b.v := Int.mul_nonneg ha.1 hb.1
  have h1 : a.v * b.v < B4 * B4 := by
    have := mul_lt (m := B4 - 1) (n := B4 - 1) ha.1 (by have := ha.2; omega) hb.1 (by have := hb.2; omega)
    have h2 : (B4 - 1) * (B4 - 1) < B4 * B4 := by decide
    omega
  exact ⟨Int.ediv_nonneg h0 (by decide), Int.ediv_lt_of_lt_mul (by decide) h1⟩
theorem natI_hi (a b : N) : natI (a.v * b.v / B4) = eN (mkN (a.v * b.v / B4)) := by rw [eN_natI, mkN_v (mul_W a b)]
theorem MulN (a b : N) : Ret Try.prog 90 [eN a, eN b] [] (.tup [eN (mkN (a.v * b.v / B4)), eN (mkN (a.v * b.v))]) [] := by
  have h := Mul_ret a.v b.v a.h b.h
  rwa [natI_mk, natI_hi] at h
theorem rMulN (a b : N) : Ret Try.prog 92 [eN a, eN b] [] (.tup [eN (mkN (a.v * b.v / B4)), eN (mkN (a.v * b.v))]) [] := by
  have h := rMul_ret a.v b.v a.h b.h
  rwa [natI_mk, natI_hi] at h
def cmpI (a b : Int) : Int := if a < b then -1 else if b < a then 1 else 0
set_option maxRecDepth 100000 in
theorem Cmp_ret (a b : N) : Ret Try.prog 88 [eN a, eN b] [] (.int .i64 (cmpI a.v b.v)) [] := by
  have ea := limbs_v a; have eb := limbs_v b
  have a0 := l0_U a; have a1 := l1_U a; have a2 := l2_U a; have a3 := l3_U a
  have b0 := l0_U b; have b1 := l1_U b; have b2 := l2_U b; have b3 := l3_U b
  refine ret_of_body atNone tok mixed Try.func88 (by kernel_rfl) rfl (k := 24) (rs := [.tmp 4]) (by kernel_rfl) (by kernel_rfl) ?_
  (conv => whnf) <;> repeat' (first | (intro I hw hs; apply hs; conv => whnf) | (apply hs; conv => whnf) | ((first | refine wN ?_ | refine wNc ?_ | refine wA ?_ | refine wB ?_ | refine wC ?_ | refine wD ?_); conv => whnf) | ((first | apply Pick.mk | apply Cond.mk) <;> intro h <;> conv => whnf))
  all_goals
    clear hs hw
    refine End.mk (int_eq ?_) rfl
    simp only [bne_iff_ne, bne_eq_false_iff_eq, decide_eq_true_eq, decide_eq_false_iff_not] at *
    rw [ea, eb]
    unfold U at *; unfold cmpI val4
    first
      | (rw [if_pos (by omega)]; done)
      | (rw [if_neg (by omega), if_pos (by omega)]; done)
      | (rw [if_neg (by omega), if_neg (by omega)]; done)
set_option maxRecDepth 100000 in
theorem rCmp_ret (a b : N) : Ret Try.prog 93 [eN a, eN b] [] (.int .i64 (cmpI a.v b.v)) [] := by
  have ea := limbs_v a; have eb := limbs_v b
  have a0 := l0_U a; have a1 := l1_U a; have a2 := l2_U a; have a3 := l3_U a
  have b0 := l0_U b; have b1 := l1_U b; have b2 := l2_U b; have b3 := l3_U b
  refine ret_of_body atNone tok mixed Try.func93 (by kernel_rfl) rfl (k := 24) (rs := [.tmp 4]) (by kernel_rfl) (by kernel_rfl) ?_
  (conv => whnf) <;> repeat' (first | (intro I hw hs; apply hs; conv => whnf) | (apply hs; conv => whnf) | ((first | refine wN ?_ | refine wNc ?_ | refine wA ?_ | refine wB ?_ | refine wC ?_ | refine wD ?_); conv => whnf) | ((first | apply Pick.mk | apply Cond.mk) <;> intro h <;> conv => whnf))
  all_goals
    clear hs hw
    refine End.mk (int_eq ?_) rfl
    simp only [bne_iff_ne, bne_eq_false_iff_eq, decide_eq_true_eq, decide_eq_false_iff_not] at *
    rw [ea, eb]
    unfold U at *; unfold cmpI val4
    first
      | (rw [if_pos (by omega)]; done)
      | (rw [if_neg (by omega), if_pos (by omega)]; done)
      | (rw [if_neg (by omega), if_neg (by omega)]; done)
end Go.Proofs.Ytafiechoplbieaa

set_option linter.unusedVariables false
set_option linter.unusedSimpArgs false
set_option maxRecDepth 100000
namespace Go.Proofs.Ytafiechoplbieaa
open Go.AM
end Go.Proofs.Ytafiechoplbieaa

set_option linter.unusedVariables false
set_option linter.unusedSimpArgs false
set_option maxRecDepth 100000
namespace Go.Proofs.Ytafiechoplbieaa
open Go.AM
theorem Ten_ret (n : Int) (h0 : 0 ≤ n) (h1 : n ≤ 77) : Ret Try.prog 89 [.int .i64 n] [] (.tup [eN (mkN (10 ^ n.toNat)), .bool true]) [] := by
  refine ret_of_body atNone tok mixed Try.func89 (by kernel_rfl) rfl (k := 24) (rs := [.cell 2 38, .tmp 3]) (by kernel_rfl) (by kernel_rfl) ?_
  (conv => whnf) <;> repeat' (first | ((first | refine wN ?_ | refine wNc ?_ | refine wA ?_ | refine wB ?_ | refine wC ?_ | refine wD ?_ | refine Called.mk _ _ (From_ret _ (by decide)) ?_); conv => whnf) | ((first | apply Pick.mk | apply Cond.mk) <;> intro h <;> conv => whnf))
  · rw [decF (by omega)] at h; cases h
  · simp at h; omega
  intro I hw hs
  have key : ∀ (k : Nat) (i : Int), 0 ≤ i → i + k = n → I [.und, .und, .ptr 0 0, .und, .ptr 1 0, .und, .und, .und, .und, .und, .und, .und, .und, .int .i64 n, .int .i64 i, .und, .und, .und, .und, .und, .und, .und, .und, .und] [.cells (cN N0), .cells (cN (mkN (10 ^ i.toNat)))] := by
    intro k
    induction k with
    | zero =>
      intro i hi hin
      apply hs
      conv => whnf
      refine Cond.ff (decF (by omega)) ?_
      (conv => whnf) <;> repeat' (first | ((first | refine wN ?_ | refine wNc ?_ | refine wA ?_ | refine wB ?_ | refine wC ?_ | refine wD ?_); conv => whnf) | ((first | apply Pick.mk | apply Cond.mk) <;> intro h <;> conv => whnf))
      obtain rfl : i = n := by omega
      exact End.mk rfl rfl
    | succ k ih =>
      intro i hi hin
      apply hs
      conv => whnf
      refine Cond.tt (decT (by omega)) ?_
      (conv => whnf) <;> repeat' (first | ((first | refine wN ?_ | refine wNc ?_ | refine wA ?_ | refine wB ?_ | refine wC ?_ | refine wD ?_ | refine Called.mk _ _ (From_ret _ (by decide)) ?_ | refine Called.mk _ _ (MulN (mkN (10 ^ i.toNat)) (mkN 10)) ?_); conv => whnf) | ((first | apply Pick.mk | apply Cond.mk) <;> intro h <;> conv => whnf))
      rw [ten_step hi (by omega), wi64_id (n := i + 1) (by omega) (by omega)]
      apply hw [0, 1] [false, false, true, false, true, false, false, false, false, false, false, false, false, true, true] _ _ (by decide)
      exact ih (i + 1) (by omega) (by omega)
  apply hw [0, 1] [false, false, true, false, true, false, false, false, false, false, false, false, false, true, true] _ _ (by decide)
  exact key n.toNat 0 (by omega) (by omega)
theorem rTen_ret (n : Int) (h0 : 0 ≤ n) (h1 : n ≤ 77) : Ret Try.prog 91 [.int .i64 n] [] (.tup [eN (mkN (10 ^ n.toNat)), .bool true]) [] := by
  refine ret_of_body atNone tok mixed Try.func91 (by kernel_rfl) rfl (k := 26) (rs := [.cell 2 38, .tmp 3]) (by kernel_rfl) (by kernel_rfl) ?_
  (conv => whnf) <;> repeat' (first | ((first | refine wN ?_ | refine wNc ?_ | refine wA ?_ | refine wB ?_ | refine wC ?_ | refine wD ?_ | refine Called.mk _ _ (rFrom_ret _ (by decide)) ?_); conv => whnf) | ((first | apply Pick.mk | apply Cond.mk) <;> intro h <;> conv => whnf))
  · rw [decF (by omega)] at h; cases h
  · simp at h; omega
  intro I hw hs
  have key : ∀ (k : Nat) (i : Int), 0 ≤ i → i + k = n → I [.int .i64 n, .und, .ptr 0 0, .und, .ptr 1 0, .int .i64 i, .und, .und, .und, .und, .und, .und, .und, .und, .und, .und, .und, .und, .und, .und, .und, .und, .und, .und, .und, .und] [.cells (cN N0), .cells (cN (mkN (10 ^ i.toNat)))] := by
    intro k
    induction k with
    | zero =>
      intro i hi hin
      apply hs
      conv => whnf
      refine Cond.ff (decF (by omega)) ?_
      (conv => whnf) <;> repeat' (first | ((first | refine wN ?_ | refine wNc ?_ | refine wA ?_ | refine wB ?_ | refine wC ?_ | refine wD ?_); conv => whnf) | ((first | apply Pick.mk | apply Cond.mk) <;> intro h <;> conv => whnf))
      obtain rfl : i = n := by omega
      exact End.mk rfl rfl
    | succ k ih =>
      intro i hi hin
      apply hs
      conv => whnf
      refine Cond.tt (decT (by omega)) ?_
      (conv => whnf) <;> repeat' (first | ((first | refine wN ?_ | refine wNc ?_ | refine wA ?_ | refine wB ?_ | refine wC ?_ | refine wD ?_ | refine Called.mk _ _ (rFrom_ret _ (by decide)) ?_ | refine Called.mk _ _ (rMulN (mkN (10 ^ i.toNat)) (mkN 10)) ?_); conv => whnf) | ((first | apply Pick.mk | apply Cond.mk) <;> intro h <;> conv => whnf))
      rw [ten_step hi (by omega), wi64_id (n := i + 1) (by omega) (by omega)]
      apply hw [0, 1] [true, false, true, false, true, true] _ _ (by decide)
      exact ih (i + 1) (by omega) (by omega)
  apply hw [0, 1] [true, false, true, false, true, true] _ _ (by decide)
  exact key n.toNat 0 (by omega) (by omega)
end Go.Proofs.Ytafiechoplbieaa

