/- decimal: plus, less; exciseref02: plus, minus. -/
import Derived.Test.YtdpnhedbggnhiaaGreatAmGH
import Derived.Test.YtdpnhedbggnhiaaGreatAmGU
set_option linter.unusedVariables false
set_option linter.unusedSimpArgs false
set_option maxRecDepth 100000
namespace Go.Proofs.YtdpnhedbggnhiaaGreat
open Go.AM
theorem dplus_ret (x y : Int) (hx : WW x) (hy : WW y) : Ret Tryz.prog 67 [eW x, eW y] [] (eW (x + y)) [] := by
  refine ret_of_body atNone tok mixed Tryz.func67 (by kernel_rfl) rfl (k := 35) (rs := [.cell 4 64]) (by kernel_rfl) (by kernel_rfl) ?_
  (conv => whnf) <;> repeat' (first | ((first | refine wN ?_ | refine wA ?_ | refine wB ?_ | refine wC ?_ | refine wD ?_ | refine Called.mk _ _ (Add_ret (mkN x) (mkN y)) ?_ | refine Called.mk _ _ (Add_ret (mkN (x / B4)) (mkN (y / B4))) ?_ | refine Called.mk _ _ (From_ret 1 (by decide)) ?_ | refine Called.mk _ _ (Add_ret (mkN ((mkN (x / B4)).v + (mkN (y / B4)).v)) (mkN 1)) ?_ | refine vA ?_ | refine vB ?_ | refine vC ?_ | refine vD ?_); conv => whnf) | ((first | apply Pick.dec | apply Pick.beq | apply Cond.dec | apply Cond.beq | apply Cond.nd | apply Pick.nd | apply Pick.mk | apply Cond.mk) <;> intro h <;> conv => whnf))
  · exact End.mk (eW_is (plus_hi1 hx hy h) (plus_low x y)) rfl
  · exact End.mk (eW_is (plus_hi0 hx hy h) (plus_low x y)) rfl
theorem rplus_ret (x y : Int) (hx : WW x) (hy : WW y) : Ret Tryz.prog 72 [eW x, eW y] [] (eW (x + y)) [] := by
  refine ret_of_body atNone tok mixed Tryz.func72 (by kernel_rfl) rfl (k := 35) (rs := [.cell 4 60]) (by kernel_rfl) (by kernel_rfl) ?_
  (conv => whnf) <;> repeat' (first | ((first | refine wN ?_ | refine wA ?_ | refine wB ?_ | refine wC ?_ | refine wD ?_ | refine Called.mk _ _ (rAdd_ret (mkN x) (mkN y)) ?_ | refine Called.mk _ _ (rAdd_ret (mkN (x / B4)) (mkN (y / B4))) ?_ | refine Called.mk _ _ (rFrom_ret 1 (by decide)) ?_ | refine Called.mk _ _ (rAdd_ret (mkN ((mkN (x / B4)).v + (mkN (y / B4)).v)) (mkN 1)) ?_ | refine vA ?_ | refine vB ?_ | refine vC ?_ | refine vD ?_); conv => whnf) | ((first | apply Pick.dec | apply Pick.beq | apply Cond.dec | apply Cond.beq | apply Cond.nd | apply Pick.nd | apply Pick.mk | apply Cond.mk) <;> intro h <;> conv => whnf))
  · exact End.mk (eW_is (plus_hi1 hx hy h) (plus_low x y)) rfl
  · exact End.mk (eW_is (plus_hi0 hx hy h) (plus_low x y)) rfl
end Go.Proofs.YtdpnhedbggnhiaaGreat

set_option linter.unusedVariables false
set_option linter.unusedSimpArgs false
set_option maxRecDepth 100000
namespace Go.Proofs.YtdpnhedbggnhiaaGreat
open Go.AM
theorem rshift_ret (a : N) (p : Int) (h0 : 0 ≤ p) (h1 : p ≤ 77) : Ret Tryz.prog 68 [eN a, .int .i64 p] [] (eW (a.v * tenP p)) [] := by
  have e : (mkN (10 ^ p.toNat)).v = tenP p := mkN_v (ten_W h1)
  have hm := rMulN a (mkN (10 ^ p.toNat))
  rw [e] at hm
  refine ret_of_body atNone tok mixed Tryz.func68 (by kernel_rfl) rfl (k := 23) (rs := [.cell 4 60]) (by kernel_rfl) (by kernel_rfl) ?_
  (conv => whnf) <;> repeat' (first | ((first | refine wN ?_ | refine wA ?_ | refine wB ?_ | refine wC ?_ | refine wD ?_ | refine Called.mk _ _ (rTen_ret p h0 h1) ?_ | refine Called.mk _ _ (hm) ?_ | refine vA ?_ | refine vB ?_ | refine vC ?_ | refine vD ?_); conv => whnf) | ((first | apply Pick.dec | apply Pick.beq | apply Cond.dec | apply Cond.beq | apply Cond.nd | apply Pick.nd | apply Pick.mk | apply Cond.mk) <;> intro h <;> conv => whnf))
  exact End.mk rfl rfl
end Go.Proofs.YtdpnhedbggnhiaaGreat

set_option linter.unusedVariables false
set_option linter.unusedSimpArgs false
set_option maxRecDepth 100000
namespace Go.Proofs.YtdpnhedbggnhiaaGreat
open Go.AM
end Go.Proofs.YtdpnhedbggnhiaaGreat

set_option linter.unusedVariables false
set_option linter.unusedSimpArgs false
set_option maxRecDepth 100000
namespace Go.Proofs.YtdpnhedbggnhiaaGreat
open Go.AM
end Go.Proofs.YtdpnhedbggnhiaaGreat

set_option linter.unusedVariables false
set_option linter.unusedSimpArgs false
set_option maxRecDepth 100000
namespace Go.Proofs.YtdpnhedbggnhiaaGreat
open Go.AM
end Go.Proofs.YtdpnhedbggnhiaaGreat

set_option linter.unusedVariables false
set_option linter.unusedSimpArgs false
set_option maxRecDepth 100000
namespace Go.Proofs.YtdpnhedbggnhiaaGreat
open Go.AM
theorem rat_ret (neg : Bool) (x : Int) (scale : Int) (hx : WW x) : Ret Tryz.prog 46 [.bool neg, eW x, .int .i64 scale] [] (.tup [eD (made neg x scale).1, .int .i64 (made neg x scale).2]) [] := by
  have h1 := WW_zero_hi hx
  have hz : Ret Tryz.prog 61 [eW x] [] (.bool (decide (mkN (x / B4) = N0 ∧ mkN x = N0))) [] := by
    refine ret_of_body atNone tok mixed Tryz.func61 (by kernel_rfl) rfl (k := 13) (rs := [.tmp 2]) (by kernel_rfl) (by kernel_rfl) ?_
    (conv => whnf) <;> repeat' (first | (rw [eqN_zero]; conv => whnf) | ((first | refine wN ?_ | refine wA ?_ | refine wB ?_ | refine wC ?_ | refine wD ?_ | refine vA ?_ | refine vB ?_ | refine vC ?_ | refine vD ?_); conv => whnf) | ((first | apply Pick.dec | apply Pick.beq | apply Cond.dec | apply Cond.beq | apply Cond.nd | apply Pick.nd | apply Pick.mk | apply Cond.mk) <;> intro h <;> conv => whnf))
    all_goals
      refine End.mk (bool_eq ?_) rfl
      simp_all
  refine ret_of_body atNone tok mixed Tryz.func46 (by kernel_rfl) rfl (k := 23) (rs := [.cell 6 26, .tmp 7]) (by kernel_rfl) (by kernel_rfl) ?_
  (conv => whnf) <;> repeat' (first | (rw [eqN_zero]; conv => whnf) | ((first | refine wN ?_ | refine wA ?_ | refine wB ?_ | refine wC ?_ | refine wD ?_ | refine Called.mk _ _ (hz) ?_ | refine vA ?_ | refine vB ?_ | refine vC ?_ | refine vD ?_); conv => whnf) | ((first | apply Pick.dec | apply Pick.beq | apply Cond.dec | apply Cond.beq | apply Cond.nd | apply Pick.nd | apply Pick.mk | apply Cond.mk) <;> intro h <;> conv => whnf))
  · have : B4 ≤ x := by have := (not_congr h1).1 h; omega
    unfold made
    rw [if_pos this]
    exact End.mk rfl rfl
  all_goals
    have hlt : ¬ B4 ≤ x := by have := h1.1 (by assumption); omega
    unfold made
    rw [if_neg hlt]
    refine End.mk (tup_eq (cons_eq (agg_eq (cons_eq (bool_eq ?_) rfl)) rfl)) rfl
    simp_all
end Go.Proofs.YtdpnhedbggnhiaaGreat

set_option linter.unusedVariables false
set_option linter.unusedSimpArgs false
set_option maxRecDepth 100000
namespace Go.Proofs.YtdpnhedbggnhiaaGreat
open Go.AM
theorem rNeg_ret (a : D) : Ret Tryz.prog 26 [eD a] [] (.tup [eD (negOf a).1, .int .i64 (negOf a).2]) [] := by
  have hm := rat_ret (!a.neg) a.n.v a.scale (WW_low a.n.h.1 a.n.h.2)
  rw [eW_low a.n.h.1 a.n.h.2, mkN_val, made_sg _ a.n.h.1, sg_not] at hm
  by_cases ha : a.ok
  · have hc := rCheck_ret a
    rw [check_ok ha] at hc
    rw [show negOf a = madeZ (- a.sv) a.scale from if_pos ha]
    refine ret_of_body atNone tok mixed Tryz.func26 (by kernel_rfl) rfl (k := 22) (rs := [.cell 2 26, .tmp 3]) (by kernel_rfl) (by kernel_rfl) ?_
    (conv => whnf) <;> repeat' (first | ((first | refine wN ?_ | refine wA ?_ | refine wB ?_ | refine wC ?_ | refine wD ?_ | refine Called.mk _ _ (hc) ?_ | refine Called.mk _ _ (hm) ?_ | refine vA ?_ | refine vB ?_ | refine vC ?_ | refine vD ?_); conv => whnf) | ((first | apply Pick.dec | apply Pick.beq | apply Cond.dec | apply Cond.beq | apply Cond.nd | apply Pick.nd | apply Pick.mk | apply Cond.mk) <;> intro h <;> conv => whnf))
    exact End.mk rfl rfl
  · have hc := rCheck_ret a
    rw [check_bad ha] at hc
    rw [show negOf a = (D0, 20) from if_neg ha]
    refine ret_of_body atNone tok mixed Tryz.func26 (by kernel_rfl) rfl (k := 22) (rs := [.cell 2 26, .tmp 3]) (by kernel_rfl) (by kernel_rfl) ?_
    (conv => whnf) <;> repeat' (first | ((first | refine wN ?_ | refine wA ?_ | refine wB ?_ | refine wC ?_ | refine wD ?_ | refine Called.mk _ _ (hc) ?_ | refine vA ?_ | refine vB ?_ | refine vC ?_ | refine vD ?_); conv => whnf) | ((first | apply Pick.dec | apply Pick.beq | apply Cond.dec | apply Cond.beq | apply Cond.nd | apply Pick.nd | apply Pick.mk | apply Cond.mk) <;> intro h <;> conv => whnf))
    exact End.mk rfl rfl
end Go.Proofs.YtdpnhedbggnhiaaGreat

set_option linter.unusedVariables false
set_option linter.unusedSimpArgs false
set_option maxRecDepth 100000
namespace Go.Proofs.YtdpnhedbggnhiaaGreat
open Go.AM
end Go.Proofs.YtdpnhedbggnhiaaGreat

