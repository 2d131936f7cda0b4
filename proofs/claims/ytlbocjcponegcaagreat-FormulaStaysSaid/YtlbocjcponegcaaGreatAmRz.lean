/- The rows' arguments, opened: items. -/
import Derived.Test.YtlbocjcponegcaaGreatAmHq
import Derived.Test.YtlbocjcponegcaaGreatAmRowZ
set_option linter.unusedVariables false
set_option linter.unusedSimpArgs false
set_option maxRecDepth 100000
namespace Go.Proofs.YtlbocjcponegcaaGreat
open Go.AM Go.ChangeShapes Go.WideShapes Go.ChangeAt Go.RowKit
section
variable {H : Type} {enc : TypeId × Value → H} {W0 : World} {spare : Nat → Bool} {held : Bool} {base : Nat} {v : Value} {d : DataW H} {ps : List MemPlace} {r : Reach} {ι : AM.Map}
theorem open_item (hval : Value.okWide Tryz.prog W0 r base 49 v) (h : DataW.Trod enc Tryz.prog W0 0 spare held 49 v d ps) : ∃ x : It, x.Wf ∧ AM.Rel ι W0.cell? (.agg (cIt x)) v := by
  obtain ⟨fuel, hf⟩ := h
  have g := good 49 (d := tdIt 31 176) rfl (by intro h; cases h)
  obtain ⟨vs, hty, hc⟩ := open_ tok closed_tab fuel (tdIt 31 176) 49 [31] g rfl (fun e he => by
    simp only [List.mem_singleton] at he
    subst he
    exact ⟨(by intro h; cases h), _, rfl⟩) _ _ _ hf
  obtain ⟨x, hx, hc'⟩ := open_it tab_expr fuel vs _ hty hc
  exact ⟨x, hx, arg_agg g rfl hval hc'⟩
end
end Go.Proofs.YtlbocjcponegcaaGreat

