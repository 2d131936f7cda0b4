/- decimal: plus, less; exciseref02: plus, minus. -/
import Derived.Test.YtafiechoplbieaaAmGH
import Derived.Test.YtafiechoplbieaaAmGU
set_option linter.unusedVariables false
set_option linter.unusedSimpArgs false
set_option maxRecDepth 100000
namespace Go.Proofs.Ytafiechoplbieaa
open Go.AM
end Go.Proofs.Ytafiechoplbieaa

set_option linter.unusedVariables false
set_option linter.unusedSimpArgs false
set_option maxRecDepth 100000
namespace Go.Proofs.Ytafiechoplbieaa
open Go.AM
theorem rshift_ret (a : N) (p : Int) (h0 : 0 ≤ p) (h1 : p ≤ 77) : Ret Try.prog 81 [eN a, .int .i64 p] [] (eW (a.v * tenP p)) [] := by
  have e : (mkN (10 ^ p.toNat)).v = tenP p := mkN_v (ten_W h1)
  have hm := rMulN a (mkN (10 ^ p.toNat))
  rw [e] at hm
  refine ret_of_body atNone tok mixed Try.func81 (by kernel_rfl) rfl (k := 23) (rs := [.cell 4 133]) (by kernel_rfl) (by kernel_rfl) ?_
  (conv => whnf) <;> repeat' (first | ((first | refine wN ?_ | refine wNc ?_ | refine wA ?_ | refine wB ?_ | refine wC ?_ | refine wD ?_ | refine Called.mk _ _ (rTen_ret p h0 h1) ?_ | refine Called.mk _ _ (hm) ?_ | refine vA ?_ | refine vB ?_ | refine vC ?_ | refine vD ?_); conv => whnf) | ((first | apply Pick.dec | apply Pick.beq | apply Cond.dec | apply Cond.beq | apply Cond.nd | apply Pick.nd | apply Pick.mk | apply Cond.mk) <;> intro h <;> conv => whnf))
  exact End.mk rfl rfl
theorem rcmp_ret (x y : Int) (hx : WW x) (hy : WW y) : Ret Try.prog 82 [eW x, eW y] [] (.int .i64 (cmpZ x y)) [] := by
  have h1 := WW_hi hx; have h2 := WW_hi hy
  have h3 := mkN_lo x; have h4 := mkN_lo y
  refine ret_of_body atNone tok mixed Try.func82 (by kernel_rfl) rfl (k := 19) (rs := [.tmp 4]) (by kernel_rfl) (by kernel_rfl) ?_
  (conv => whnf) <;> repeat' (first | ((first | refine wN ?_ | refine wNc ?_ | refine wA ?_ | refine wB ?_ | refine wC ?_ | refine wD ?_ | refine Called.mk _ _ (rCmp_ret (mkN (x / B4)) (mkN (y / B4))) ?_ | refine Called.mk _ _ (rCmp_ret (mkN x) (mkN y)) ?_ | refine vA ?_ | refine vB ?_ | refine vC ?_ | refine vD ?_); conv => whnf) | ((first | apply Pick.dec | apply Pick.beq | apply Cond.dec | apply Cond.beq | apply Cond.nd | apply Pick.nd | apply Pick.mk | apply Cond.mk) <;> intro h <;> conv => whnf))
  all_goals
    refine End.mk (int_eq ?_) rfl
    rw [h1, h2] at h
    unfold WW at *
    unfold cmpI at *
    unfold cmpZ
    unfold B8 B4 at *
    repeat' split at h
    all_goals
      first
        | (exfalso; omega)
        | (repeat' split) <;> omega
theorem both_ret (a b : D) : Ret Try.prog 80 [eD a, eD b] [] (.int .i64 (check2 a b)) [] := by
  have hA := rCheck_ret a; have hB := rCheck_ret b
  by_cases ha : a.ok
  · rw [check_ok ha] at hA
    have e : check2 a b = check b := by
      by_cases hb : b.ok
      · rw [check_ok hb]; exact if_pos ⟨ha, hb⟩
      · rw [check_bad hb]; exact if_neg (fun h => hb h.2)
    rw [e]
    refine ret_of_body atNone tok mixed Try.func80 (by kernel_rfl) rfl (k := 13) (rs := [.tmp 4]) (by kernel_rfl) (by kernel_rfl) ?_
    (conv => whnf) <;> repeat' (first | ((first | refine wN ?_ | refine wNc ?_ | refine wA ?_ | refine wB ?_ | refine wC ?_ | refine wD ?_ | refine Called.mk _ _ (hA) ?_ | refine Called.mk _ _ (hB) ?_ | refine vA ?_ | refine vB ?_ | refine vC ?_ | refine vD ?_); conv => whnf) | ((first | apply Pick.dec | apply Pick.beq | apply Cond.dec | apply Cond.beq | apply Cond.nd | apply Pick.nd | apply Pick.mk | apply Cond.mk) <;> intro h <;> conv => whnf))
    exact End.mk rfl rfl
  · rw [check_bad ha] at hA
    rw [show check2 a b = 20 from if_neg (fun h => ha h.1)]
    refine ret_of_body atNone tok mixed Try.func80 (by kernel_rfl) rfl (k := 13) (rs := [.tmp 4]) (by kernel_rfl) (by kernel_rfl) ?_
    (conv => whnf) <;> repeat' (first | ((first | refine wN ?_ | refine wNc ?_ | refine wA ?_ | refine wB ?_ | refine wC ?_ | refine wD ?_ | refine Called.mk _ _ (hA) ?_ | refine vA ?_ | refine vB ?_ | refine vC ?_ | refine vD ?_); conv => whnf) | ((first | apply Pick.dec | apply Pick.beq | apply Cond.dec | apply Cond.beq | apply Cond.nd | apply Pick.nd | apply Pick.mk | apply Cond.mk) <;> intro h <;> conv => whnf))
    exact End.mk rfl rfl
end Go.Proofs.Ytafiechoplbieaa

set_option linter.unusedVariables false
set_option linter.unusedSimpArgs false
set_option maxRecDepth 100000
namespace Go.Proofs.Ytafiechoplbieaa
open Go.AM
end Go.Proofs.Ytafiechoplbieaa

set_option linter.unusedVariables false
set_option linter.unusedSimpArgs false
set_option maxRecDepth 100000
namespace Go.Proofs.Ytafiechoplbieaa
open Go.AM
end Go.Proofs.Ytafiechoplbieaa

set_option linter.unusedVariables false
set_option linter.unusedSimpArgs false
set_option maxRecDepth 100000
namespace Go.Proofs.Ytafiechoplbieaa
open Go.AM
end Go.Proofs.Ytafiechoplbieaa

set_option linter.unusedVariables false
set_option linter.unusedSimpArgs false
set_option maxRecDepth 100000
namespace Go.Proofs.Ytafiechoplbieaa
open Go.AM
end Go.Proofs.Ytafiechoplbieaa

set_option linter.unusedVariables false
set_option linter.unusedSimpArgs false
set_option maxRecDepth 100000
namespace Go.Proofs.Ytafiechoplbieaa
open Go.AM
end Go.Proofs.Ytafiechoplbieaa

set_option linter.unusedVariables false
set_option linter.unusedSimpArgs false
set_option maxRecDepth 100000
namespace Go.Proofs.Ytafiechoplbieaa
open Go.AM
end Go.Proofs.Ytafiechoplbieaa

