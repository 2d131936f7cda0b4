/- The rows' arguments, opened: expressions with their weight and their bulk; tables. -/
import Derived.Test.YtlbocjcponegcaaGreatAmHq
import Derived.Test.YtlbocjcponegcaaGreatAmHu
set_option linter.unusedVariables false
set_option linter.unusedSimpArgs false
set_option maxRecDepth 100000
namespace Go.Proofs.YtlbocjcponegcaaGreat
open Go.AM Go.ChangeShapes Go.WideShapes Go.ChangeAt Go.RowKit
theorem xw : XW Tryz.prog 31 29 := ⟨⟨_, Tryz.underlying31, rfl⟩, Tryz.underlying29, by kernel_rfl⟩
theorem bulkN_all {H : Type} : ∀ l : List (DataW H), (l.map Rows.uptoBulk).sum = Rows.uptoBulkAll l
  | [] => by simp [Rows.uptoBulkAll]
  | d :: r => by rw [List.map_cons, List.sum_cons, bulkN_all r]; simp [Rows.uptoBulkAll]
theorem bulkN_one {H : Type} (d : DataW H) : 1 ≤ Rows.uptoBulk d := by
  cases d with
  | lit l => cases l <;> simp [Rows.uptoBulk]
  | nil => simp [Rows.uptoBulk]
  | ptr d => simp [Rows.uptoBulk]
  | slice elems spare => simp [Rows.uptoBulk]
  | agg parts => simp [Rows.uptoBulk]
  | iface t d => simp [Rows.uptoBulk]
  | map entries => simp [Rows.uptoBulk]
  | held h => simp [Rows.uptoBulk]
theorem bulkN {H : Type} : Bulk (H := H) Rows.uptoBulk := by
  refine ⟨fun parts p hp => ?_, fun elems spare => ?_, bulkN_one⟩
  · have : Rows.uptoBulk p ≤ Rows.uptoBulkAll parts := by
      induction parts with
      | nil => cases hp
      | cons x r ih =>
        simp only [Rows.uptoBulkAll]
        rcases List.mem_cons.1 hp with rfl | hp
        · omega
        · have := ih hp; omega
    simp only [Rows.uptoBulk]; omega
  · rw [bulkN_all]; simp only [Rows.uptoBulk]; omega
section
variable {H : Type} {enc : TypeId × Value → H} {W0 : World} {spare : Nat → Bool} {held : Bool} {base : Nat} {v : Value} {d : DataW H} {ps : List MemPlace} {r : Reach} {ι : AM.Map}
theorem open_exprD (hval : Value.okWide Tryz.prog W0 r base 31 v) (h : DataW.Trod enc Tryz.prog W0 0 spare held 31 v d ps) : ∃ x : Xp, XOk Tryz.prog 31 Rows.uptoBulk x d ∧ AM.Rel ι W0.cell? (eE x) v := by
  obtain ⟨fuel, hf⟩ := h
  have g := good 31 (d := tdX 31 176) rfl (by intro h; cases h)
  obtain ⟨vs, hty, hc⟩ := open_D tok closed_tab fuel (tdX 31 176) 31 [31] g rfl (fun e he => by
    simp only [List.mem_singleton] at he
    subst he
    exact ⟨(by intro h; cases h), _, rfl⟩) _ _ _ hf
  obtain ⟨x, hx, hc'⟩ := open_xpD (P := Tryz.prog) tab_expr xw bulkN fuel vs _ d hty hc
  exact ⟨x, hx, arg_agg g rfl hval hc'⟩
end
end Go.Proofs.YtlbocjcponegcaaGreat

