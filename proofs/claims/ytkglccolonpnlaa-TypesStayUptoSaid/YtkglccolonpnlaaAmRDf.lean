/- The rows' arguments, opened: definitions. -/
import Derived.Test.YtkglccolonpnlaaAmRw
import Derived.Test.YtkglccolonpnlaaAmRowD
set_option linter.unusedVariables false
set_option linter.unusedSimpArgs false
set_option maxRecDepth 100000
namespace Go.Proofs.Ytkglccolonpnlaa
open Go.AM Go.ChangeShapes Go.WideShapes Go.ChangeAt Go.RowKit
theorem dfw : DefW Try.prog 43 39 36 56 37 46 44 41 77 where
  d := ⟨_, Try.underlying43, rfl, rfl⟩
  s := ⟨_, Try.underlying39, rfl, rfl⟩
  si := Try.underlying36
  bi := by kernel_rfl
  i := ⟨_, Try.underlying56, rfl⟩
  ss := Try.underlying37
  sp := Try.underlying41
  p := ⟨_, Try.underlying77, rfl⟩
  xw := xw
section
variable {H : Type} {enc : TypeId × Value → H} {W0 : World} {spare : Nat → Bool} {held : Bool} {base : Nat} {v : Value} {d : DataW H} {ps : List MemPlace} {r : Reach} {ι : AM.Map}
theorem open_defD (hval : Value.okWide Try.prog W0 r base 43 v) (h : DataW.Trod enc Try.prog W0 0 spare held 43 v d ps) : ∃ x : Df, ((lite Try.prog Rows.uptoBulk 43 d → x.Fine) ∧ x.Few (Rows.uptoBulk d)) ∧ AM.Rel ι W0.cell? (eDf x) v := by
  obtain ⟨fuel, hf⟩ := h
  have g := good 43 (d := tdDf 56 39 60 77) rfl (by intro h; cases h)
  obtain ⟨vs, hty, hc⟩ := open_D tok closed_tab fuel (tdDf 56 39 60 77) 43 [56, 39, 60, 77] g rfl (fun e he => by
    simp only [List.mem_cons, List.not_mem_nil, or_false] at he
    rcases he with rfl | rfl | rfl | rfl
    · exact ⟨(by intro h; cases h), _, rfl⟩
    · exact ⟨(by intro h; cases h), _, rfl⟩
    · exact ⟨(by intro h; cases h), _, rfl⟩
    · exact ⟨(by intro h; cases h), _, rfl⟩) _ _ _ hf
  obtain ⟨x, hx, hc'⟩ := open_dfD (P := Try.prog) (tStr := 9) (tStep := 118) (b := 144) tab_expr rfl rfl rfl rfl rfl dfw bulkN fuel vs _ d hty hc
  exact ⟨x, hx, arg_agg g rfl hval hc'⟩
end
end Go.Proofs.Ytkglccolonpnlaa

