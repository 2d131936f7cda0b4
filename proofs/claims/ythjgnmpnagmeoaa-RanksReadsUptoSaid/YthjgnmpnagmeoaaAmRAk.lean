/- The rows' arguments, opened: what exciselaw11 asks of sections. -/
import Derived.Test.YthjgnmpnagmeoaaAmIh
import Derived.Test.YthjgnmpnagmeoaaAmRowAk
set_option linter.unusedVariables false
set_option linter.unusedSimpArgs false
set_option maxRecDepth 100000
namespace Go.Proofs.Ythjgnmpnagmeoaa
open Go.AM Go.ChangeShapes Go.WideShapes Go.ChangeAt Go.RowKit
section
variable {H : Type} {enc : TypeId × Value → H} {W0 : World} {spare : Nat → Bool} {held : Bool} {base : Nat} {v : Value} {d : DataW H} {ps : List MemPlace} {r : Reach} {ι : AM.Map}
theorem open_asked (hval : Value.okWide Try.prog W0 r base 45 v) (h : DataW.Trod enc Try.prog W0 0 spare held 45 v d ps) : ∃ x : List Se × Int × Int × Int, (I64 x.2.1 ∧ I64 x.2.2.1 ∧ I64 x.2.2.2 ∧ (lite Try.prog Rows.uptoBulk 45 d → ∀ s ∈ x.1, s.Ok) ∧ SesOk x.1 (Rows.uptoBulk d)) ∧ AM.Rel ι W0.cell? (.agg [eL 5 cSe x.1, .int .i64 x.2.1, .int .i64 x.2.2.1, .int .i64 x.2.2.2]) v := by
  obtain ⟨fuel, hf⟩ := h
  have g := good 45 (d := tdAk 56) rfl (by intro h; cases h)
  obtain ⟨vs, hty, hc⟩ := open_D tok closed_tab fuel (tdAk 56) 45 [56] g rfl (fun e he => by
    simp only [List.mem_singleton] at he
    subst he
    exact ⟨(by intro h; cases h), _, rfl⟩) _ _ _ hf
  obtain ⟨l, n, s, i, hx, hc'⟩ := open_akB (P := Try.prog) (tSe := 56) (tL := 30) (tA := 45) tab_expr rfl rfl dfw ⟨_, Try.underlying56, rfl⟩ Try.underlying30 ⟨_, Try.underlying45, rfl⟩ bulkN fuel vs _ d hty hc
  exact ⟨(l, n, s, i), hx, arg_agg g rfl hval hc'⟩
end
end Go.Proofs.Ythjgnmpnagmeoaa

