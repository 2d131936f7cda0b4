/- The rows' arguments, opened: expressions. -/
import Derived.Test.YtlbocjcponegcaaGreatAmGR
import Derived.Test.YtlbocjcponegcaaGreatAmHi
set_option linter.unusedVariables false
set_option linter.unusedSimpArgs false
set_option maxRecDepth 100000
namespace Go.Proofs.YtlbocjcponegcaaGreat
open Go.AM Go.ChangeShapes Go.WideShapes Go.ChangeAt Go.RowKit
section
variable {H : Type} {enc : TypeId × Value → H} {W0 : World} {spare : Nat → Bool} {held : Bool} {base : Nat} {v : Value} {d : DataW H} {ps : List MemPlace} {r : Reach} {ι : AM.Map}
theorem tab_expr : tab 31 = tdX 31 176 := rfl
end
end Go.Proofs.YtlbocjcponegcaaGreat

set_option linter.unusedVariables false
set_option linter.unusedSimpArgs false
set_option maxRecDepth 100000
namespace Go.Proofs.YtlbocjcponegcaaGreat
open Go.AM Go.ChangeShapes Go.WideShapes Go.ChangeAt Go.RowKit
section
variable {H : Type} {enc : TypeId × Value → H} {W0 : World} {spare : Nat → Bool} {held : Bool} {base : Nat} {v : Value} {d : DataW H} {ps : List MemPlace} {r : Reach} {ι : AM.Map}
abbrev tdRd : TD := .struct [.slice 78 11 104, .slice 80 26 224, .slice 123 2 40]
theorem open_reads (hval : Value.okWide Tryz.prog W0 r base 36 v) (h : DataW.Trod enc Tryz.prog W0 0 spare held 36 v d ps) : ∃ x : Rd, x.wf ∧ AM.Rel ι W0.cell? (eRd x) v := by
  obtain ⟨fuel, hf⟩ := h
  have g := good 36 (d := tdRd) rfl (by intro h; cases h)
  obtain ⟨vs, hty, hc⟩ := open_ tok closed_tab fuel tdRd 36 [78, 80, 123] g rfl (fun e he => by
    simp only [List.mem_cons, List.not_mem_nil, or_false] at he
    rcases he with rfl | rfl | rfl
    all_goals exact ⟨(by intro h; cases h), _, rfl⟩) _ _ _ hf
  obtain ⟨x, hx, hc'⟩ := open_rd (T := tab) (eN := 78) (eC := 80) (eT := 123) (eS := 152) (bN := 104) (bC := 224) (bT := 40) (bS := 144) rfl rfl rfl rfl hty hc
  exact ⟨x, hx, arg_agg g rfl hval hc'⟩
end
end Go.Proofs.YtlbocjcponegcaaGreat

