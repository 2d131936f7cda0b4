/- Types and constants, as they are specified. -/
import Derived.Test.YtkglccolonpnlaaAmGX
set_option linter.unusedVariables false
set_option linter.unusedSimpArgs false
set_option maxRecDepth 100000
namespace Go.AM
def typeE (k s : Int) : Int := if (k = 1 ∧ 0 ≤ s ∧ s ≤ 18) ∨ ((k = 2 ∨ k = 3) ∧ s = 0) then 0 else 100
theorem typeE_0 {k s : Int} (h : (k = 1 ∧ 0 ≤ s ∧ s ≤ 18) ∨ ((k = 2 ∨ k = 3) ∧ s = 0)) : typeE k s = 0 := if_pos h
theorem typeE_x {k s : Int} (h : ¬ ((k = 1 ∧ 0 ≤ s ∧ s ≤ 18) ∨ ((k = 2 ∨ k = 3) ∧ s = 0))) : typeE k s = 100 := if_neg h
def constE (v : Vl) : Int :=
  if v.kind = 1 then if v.num.ok then if v = numV v.num then 0 else 100 else 20
  else if v.kind = 2 then if v = flagV v.flag then 0 else 100
  else if v.kind = 3 then if v = textV v.text ∧ v.text.size ≤ 64 then 0 else 100 else 100
theorem constE_1 {v : Vl} (k : v.kind = 1) (h : ¬ v.num.ok) : constE v = 20 := by unfold constE; rw [if_pos k, if_neg h]
theorem constE_1t {v : Vl} (k : v.kind = 1) (h : v.num.ok) (e : v = numV v.num) : constE v = 0 := by unfold constE; rw [if_pos k, if_pos h, if_pos e]
theorem constE_1f {v : Vl} (k : v.kind = 1) (h : v.num.ok) (e : v ≠ numV v.num) : constE v = 100 := by unfold constE; rw [if_pos k, if_pos h, if_neg e]
theorem constE_2t {v : Vl} (k : v.kind = 2) (e : v = flagV v.flag) : constE v = 0 := by unfold constE; rw [if_neg (by omega), if_pos k, if_pos e]
theorem constE_2f {v : Vl} (k : v.kind = 2) (e : v ≠ flagV v.flag) : constE v = 100 := by unfold constE; rw [if_neg (by omega), if_pos k, if_neg e]
theorem constE_3t {v : Vl} (k : v.kind = 3) (e : v = textV v.text) (h : v.text.size ≤ 64) : constE v = 0 := by unfold constE; rw [if_neg (by omega), if_neg (by omega), if_pos k, if_pos ⟨e, h⟩]
theorem constE_3f {v : Vl} (k : v.kind = 3) (h : ¬ (v = textV v.text ∧ v.text.size ≤ 64)) : constE v = 100 := by unfold constE; rw [if_neg (by omega), if_neg (by omega), if_pos k, if_neg h]
theorem constE_x {v : Vl} (k1 : v.kind ≠ 1) (k2 : v.kind ≠ 2) (k3 : v.kind ≠ 3) : constE v = 100 := by unfold constE; rw [if_neg k1, if_neg k2, if_neg k3]
end Go.AM

