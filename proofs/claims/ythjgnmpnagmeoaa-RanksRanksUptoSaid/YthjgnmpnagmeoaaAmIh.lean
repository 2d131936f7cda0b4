/- The rows' arguments, opened: definitions. -/
import Derived.Test.YthjgnmpnagmeoaaAmRw
import Derived.Test.YthjgnmpnagmeoaaAmIg
set_option linter.unusedVariables false
set_option linter.unusedSimpArgs false
set_option maxRecDepth 100000
namespace Go.Proofs.Ythjgnmpnagmeoaa
open Go.AM Go.ChangeShapes Go.WideShapes Go.ChangeAt Go.RowKit
theorem dfw : DefW Try.prog 29 25 22 70 23 68 66 27 146 where
  d := ⟨_, Try.underlying29, rfl, rfl⟩
  s := ⟨_, Try.underlying25, rfl, rfl⟩
  si := Try.underlying22
  bi := by kernel_rfl
  i := ⟨_, Try.underlying70, rfl⟩
  ss := Try.underlying23
  sp := Try.underlying27
  p := ⟨_, Try.underlying146, rfl⟩
  xw := xw
section
variable {H : Type} {enc : TypeId × Value → H} {W0 : World} {spare : Nat → Bool} {held : Bool} {base : Nat} {v : Value} {d : DataW H} {ps : List MemPlace} {r : Reach} {ι : AM.Map}
end
end Go.Proofs.Ythjgnmpnagmeoaa

set_option linter.unusedVariables false
set_option linter.unusedSimpArgs false
set_option maxRecDepth 100000
namespace Go.Proofs.Ythjgnmpnagmeoaa
open Go.AM Go.ChangeShapes Go.WideShapes Go.ChangeAt Go.RowKit
section
variable {H : Type} {enc : TypeId × Value → H} {W0 : World} {spare : Nat → Bool} {held : Bool} {base : Nat} {v : Value} {d : DataW H} {ps : List MemPlace} {r : Reach} {ι : AM.Map}
theorem open_sects (hval : Value.okWide Try.prog W0 r base 30 v) (h : DataW.Trod enc Try.prog W0 0 spare held 30 v d ps) : ∃ x : List Se, ((lite Try.prog Rows.uptoBulk 30 d → ∀ s ∈ x, s.Ok) ∧ SesOk x (Rows.uptoBulk d)) ∧ AM.Rel ι W0.cell? (eL 5 cSe x) v := by
  obtain ⟨fuel, hf⟩ := h
  have g := good 30 (d := .slice 56 5 64) rfl (by intro h; cases h)
  obtain ⟨vs, hty, hc⟩ := open_D tok closed_tab fuel (.slice 56 5 64) 30 [56] g rfl (fun e he => by
    simp only [List.mem_singleton] at he
    subst he
    exact ⟨(by intro h; cases h), _, rfl⟩) _ _ _ hf
  obtain ⟨x, hx, hc'⟩ := open_sesB (P := Try.prog) (tSe := 56) (tL := 30) tab_expr rfl rfl dfw ⟨_, Try.underlying56, rfl⟩ Try.underlying30 bulkN fuel 64 vs _ d hty hc
  exact ⟨x, hx, arg_one g rfl hval hc'⟩
end
end Go.Proofs.Ythjgnmpnagmeoaa

