/- value: Check, Bad, flag, number, asked, of, may; exciseref13's. -/
import Derived.Test.YtkglccolonpnlaaAmGQ
import Derived.Test.YtkglccolonpnlaaAmGX
set_option linter.unusedVariables false
set_option linter.unusedSimpArgs false
set_option maxRecDepth 100000
namespace Go.Proofs.Ytkglccolonpnlaa
open Go.AM
theorem nt {X : Bool} (h : (!X) = true) : X = false := by simpa using h
theorem nf {X : Bool} (h : (!X) = false) : X = true := by simpa using h
theorem bf {X : Bool} (h : (bif X then X else false) = true) : X = true := by cases X <;> simp_all
/-- a value is not what is made of a part of it -/
theorem bad_of {v w : Vl} (h : (!(eqCV v w)) = true) (hw : v.valid → v = w) : checkV v = 1 := checkV_1 fun hv => eqCV_f (nt h) (hw hv)
theorem numberV_0 {d : D} {e : Int} (h : e = 0) : numberV (d, e) = numV d := if_pos h
theorem numberV_7 {d : D} {e : Int} (h : e = 7) : numberV (d, e) = errV 1 := by unfold numberV; rw [if_neg (by simp only; omega), if_pos h]
theorem numberV_x {d : D} {e : Int} (h : ¬ e = 0) (h7 : ¬ e = 7) : numberV (d, e) = errV 2 := by unfold numberV; rw [if_neg h, if_neg h7]
end Go.Proofs.Ytkglccolonpnlaa
