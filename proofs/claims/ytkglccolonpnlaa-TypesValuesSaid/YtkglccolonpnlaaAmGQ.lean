/- decimal: away, may, round; exciseref02: up, may, round. -/
import Derived.Test.YtkglccolonpnlaaAmGP
import Derived.Test.YtkglccolonpnlaaAmGU
set_option linter.unusedVariables false
set_option linter.unusedSimpArgs false
set_option maxRecDepth 100000
namespace Go.Proofs.Ytkglccolonpnlaa
open Go.AM
theorem cmpI_ge {x y : Int} : cmpI x y ≥ 0 ↔ y ≤ x := by unfold cmpI; repeat' split
                                                         all_goals omega
theorem cmpI_gt {x y : Int} : cmpI x y > 0 ↔ y < x := by unfold cmpI; repeat' split
                                                         all_goals omega
theorem cmpI_eq {x y : Int} : cmpI x y = 0 ↔ x = y := by unfold cmpI; repeat' split
                                                         all_goals omega
end Go.Proofs.Ytkglccolonpnlaa
set_option linter.unusedVariables false
set_option linter.unusedSimpArgs false
set_option maxRecDepth 100000
namespace Go.Proofs.Ytkglccolonpnlaa
open Go.AM
theorem WW_split {X : Int} (h : WW X) : (mkN (X / B4)).v * B4 + (mkN X).v = X := by
  rw [WW_hi h, mkN_lo, Int.mul_comm]; exact Int.mul_ediv_add_emod X B4
theorem ten_v {p : Int} (h : p ≤ 77) : (mkN (10 ^ p.toNat)).v = tenP p := mkN_v (ten_W h)
theorem emod_W {X d : Int} (hd : 0 < d) (h : d < B4) : (mkN (X % d)).v = X % d := mkN_v ⟨Int.emod_nonneg _ (by omega), by have := Int.emod_lt_of_pos X hd; unfold B4 at *; omega⟩
theorem ten36 {p : Int} (h : p ≤ 36) : 2 * tenP p < B4 := by
  have h2 : (10 : Int) ^ p.toNat ≤ 10 ^ 36 := by
    have := Nat.pow_le_pow_right (n := 10) (by decide) (show p.toNat ≤ 36 by omega)
    exact_mod_cast this
  have h3 : (10 : Int) ^ 36 = 1000000000000000000000000000000000000 := by decide
  unfold tenP B4; omega
end Go.Proofs.Ytkglccolonpnlaa
set_option linter.unusedVariables false
set_option linter.unusedSimpArgs false
set_option maxRecDepth 100000
namespace Go.Proofs.Ytkglccolonpnlaa
open Go.AM
theorem mayD_0 {s p : Int} (h : mayD s p = 0) : 0 ≤ s ∧ s ≤ 18 ∧ 1 ≤ p ∧ p ≤ 5 := by
  unfold mayD at h
  split at h
  · omega
  · split at h <;> omega
end Go.Proofs.Ytkglccolonpnlaa
set_option linter.unusedVariables false
set_option linter.unusedSimpArgs false
set_option maxRecDepth 100000
namespace Go.Proofs.Ytkglccolonpnlaa
open Go.AM
theorem madeZ_small {n scale : Int} (hn : I64' n) : madeZ n scale = (⟨decide (n < 0), mkN (if n < 0 then -n else n), scale⟩, 0) := by
  unfold I64' at hn
  unfold madeZ made
  rw [if_neg (by unfold B4; split <;> omega)]
  congr 2
  by_cases h : n < 0
  · have h1 : mkN (if n < 0 then -n else n) ≠ N0 := fun e => by
      have := congrArg N.v e
      rw [if_pos h, mkN_v ⟨by omega, by unfold B4; omega⟩] at this
      have h0 : N0.v = 0 := rfl
      omega
    simp [h, h1]
    rw [if_pos h] at h1
    exact h1
  · simp [h]
end Go.Proofs.Ytkglccolonpnlaa
set_option linter.unusedVariables false
set_option linter.unusedSimpArgs false
set_option maxRecDepth 100000
namespace Go.Proofs.Ytkglccolonpnlaa
open Go.AM
theorem ten10 : (mkN 10).v = 10 := by decide
theorem trim_step (k : Nat) (n : N) : trimN (k + 1) n.v = if mkN (n.v % 10) = N0 then trimN k (mkN (n.v / 10)).v else (n.v, k + 1) := by
  have hn := n.h
  have h1 : (mkN (n.v % 10)).v = n.v % 10 := mkN_v ⟨by omega, by unfold B4; omega⟩
  have h2 : (mkN (n.v / 10)).v = n.v / 10 := mkN_v ⟨by have := hn.1; omega, by have := hn.1; have := hn.2; omega⟩
  rw [h2]
  by_cases h : n.v % 10 = 0
  · rw [if_pos ((N0_iff _).2 (by rw [h1]; exact h))]
    conv => lhs; unfold trimN
    rw [if_pos h]
  · rw [if_neg (fun e => h (by rw [← h1]; exact (N0_iff _).1 e))]
    conv => lhs; unfold trimN
    rw [if_neg h]
end Go.Proofs.Ytkglccolonpnlaa
