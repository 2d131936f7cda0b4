/- What an expression reads, as a list without doubles. -/
import Derived.Test.YtkglccolonpnlaaAmHn
import Derived.Test.YtkglccolonpnlaaAmHr
import Derived.Test.YtkglccolonpnlaaAmGL
set_option linter.unusedVariables false
set_option linter.unusedSimpArgs false
set_option maxRecDepth 100000
namespace Go.AM
/-! ### the last one first -/
theorem Ret.raise {P : Program} {f : FuncId} {as' : List Val} {v : Val} {h h1 : List Blk} (hr : Ret P f as' h v h1) : Ret P f as' h v (h1.map raiseB) := by
  refine ⟨hr.1, fun ι φ w cargs k1 k2 k3 => (hr.2 ι φ w cargs k1 k2 k3).mono ?_⟩
  rintro e w' ⟨cv, ι', φ', rfl, hm, hI, hv, hend⟩
  refine ⟨cv, ι', φ', rfl, hm, hI.raise fun b => ?_, hv, fun b hb => hend b (by simpa using hb)⟩
  rcases Nat.lt_or_ge b h1.length with hb | hb
  · exact .inr (by simp [getH, List.getD_eq_getElem?_getD, hb])
  · exact .inl (by rw [getH_ge hb, getH_ge (by simpa using hb)])
/-! ### as the document gathers them -/
end Go.AM

