/- The rows' arguments, opened. -/
import Derived.Test.YthjgnmpnagmeoaaAmA0
import Derived.Test.YthjgnmpnagmeoaaAmHh
import Derived.WalkKit
import Derived.ProofKit
import Derived.OpenShut
import Derived.ShutString
import Derived.ChangeOld
import Derived.SizedLaws
set_option linter.unusedVariables false
set_option linter.unusedSimpArgs false
set_option maxRecDepth 100000
namespace Go.Proofs.Ythjgnmpnagmeoaa
open Go.AM Go.ChangeShapes Go.WideShapes Go.ChangeAt Go.RowKit
theorem own : ownKnob Try.prog.godebug = none := by kernel_rfl
theorem laidOut : laidOutB Try.prog = true := by kernel_rfl
theorem closed_tab : AM.Closed tab := closedTB_ok (l := tbl) (by kernel_rfl)
theorem good (t : TypeId) {d : TD} (h : tab t = d) (hd : d ≠ .bad) : AM.Good Try.prog d t := by subst h; exact tok.good hd
section
variable {H : Type} {enc : TypeId × Value → H} {W0 : World} {spare : Nat → Bool} {held : Bool} {base : Nat} {v : Value} {d : DataW H} {ps : List MemPlace} {r : Reach} {ι : AM.Map}
theorem open_int (hval : Value.okWide Try.prog W0 r base 3 v) (h : DataW.Trod enc Try.prog W0 0 spare held 3 v d ps) : ∃ n : Int, I64 n ∧ AM.Rel ι W0.cell? (.int .i64 n) v := by
  obtain ⟨fuel, hf⟩ := h
  have g := good 3 (d := .int .i64) rfl (by intro h; cases h)
  obtain ⟨vs, hty, hc⟩ := open_ tok closed_tab fuel (.int .i64) 3 [] g rfl (fun e he => by simp at he) _ _ _ hf
  obtain ⟨n, e, hw⟩ := ty_int hty
  subst e
  exact ⟨n, wfi64 hw, arg_one g rfl hval hc⟩
end
end Go.Proofs.Ythjgnmpnagmeoaa

set_option linter.unusedVariables false
set_option linter.unusedSimpArgs false
set_option maxRecDepth 100000
namespace Go.Proofs.Ythjgnmpnagmeoaa
open Go.AM Go.ChangeShapes Go.WideShapes Go.ChangeAt Go.RowKit
section
variable {H : Type} {enc : TypeId × Value → H} {W0 : World} {spare : Nat → Bool} {held : Bool} {base : Nat} {v : Value} {d : DataW H} {ps : List MemPlace} {r : Reach} {ι : AM.Map}
end
end Go.Proofs.Ythjgnmpnagmeoaa

set_option linter.unusedVariables false
set_option linter.unusedSimpArgs false
set_option maxRecDepth 100000
namespace Go.Proofs.Ythjgnmpnagmeoaa
open Go.AM Go.ChangeShapes Go.WideShapes Go.ChangeAt Go.RowKit
section
variable {H : Type} {enc : TypeId × Value → H} {W0 : World} {spare : Nat → Bool} {held : Bool} {base : Nat} {v : Value} {d : DataW H} {ps : List MemPlace} {r : Reach} {ι : AM.Map}
end
end Go.Proofs.Ythjgnmpnagmeoaa

