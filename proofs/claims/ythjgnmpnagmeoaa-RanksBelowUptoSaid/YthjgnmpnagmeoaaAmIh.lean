/- The rows' arguments, opened: expressions with their weight and their bulk; tables. -/
import Derived.Test.YthjgnmpnagmeoaaAmHq
import Derived.Test.YthjgnmpnagmeoaaAmHu
import Derived.Test.YthjgnmpnagmeoaaAmIg
set_option linter.unusedVariables false
set_option linter.unusedSimpArgs false
set_option maxRecDepth 100000
namespace Go.Proofs.Ythjgnmpnagmeoaa
open Go.AM Go.ChangeShapes Go.WideShapes Go.ChangeAt Go.RowKit
theorem xw : XW Try.prog 68 66 := ⟨⟨_, Try.underlying68, rfl⟩, Try.underlying66, by kernel_rfl⟩
theorem bulkN_all {H : Type} : ∀ l : List (DataW H), (l.map Rows.uptoBulk).sum = Rows.uptoBulkAll l
  | [] => by simp [Rows.uptoBulkAll]
  | d :: r => by rw [List.map_cons, List.sum_cons, bulkN_all r]; simp [Rows.uptoBulkAll]
theorem bulkN_one {H : Type} (d : DataW H) : 1 ≤ Rows.uptoBulk d := by
  cases d with
  | lit l => cases l <;> simp [Rows.uptoBulk]
  | nil => simp [Rows.uptoBulk]
  | ptr d => simp [Rows.uptoBulk]
  | slice elems spare => simp [Rows.uptoBulk]
  | agg parts => simp [Rows.uptoBulk]
  | iface t d => simp [Rows.uptoBulk]
  | map entries => simp [Rows.uptoBulk]
  | held h => simp [Rows.uptoBulk]
theorem bulkN {H : Type} : Bulk (H := H) Rows.uptoBulk := by
  refine ⟨fun parts p hp => ?_, fun elems spare => ?_, bulkN_one⟩
  · have : Rows.uptoBulk p ≤ Rows.uptoBulkAll parts := by
      induction parts with
      | nil => cases hp
      | cons x r ih =>
        simp only [Rows.uptoBulkAll]
        rcases List.mem_cons.1 hp with rfl | hp
        · omega
        · have := ih hp; omega
    simp only [Rows.uptoBulk]; omega
  · rw [bulkN_all]; simp only [Rows.uptoBulk]; omega
section
variable {H : Type} {enc : TypeId × Value → H} {W0 : World} {spare : Nat → Bool} {held : Bool} {base : Nat} {v : Value} {d : DataW H} {ps : List MemPlace} {r : Reach} {ι : AM.Map}
end
end Go.Proofs.Ythjgnmpnagmeoaa

set_option linter.unusedVariables false
set_option linter.unusedSimpArgs false
set_option maxRecDepth 100000
namespace Go.Proofs.Ythjgnmpnagmeoaa
open Go.AM Go.ChangeShapes Go.WideShapes Go.ChangeAt Go.RowKit
theorem dfw : DefW Try.prog 29 25 22 70 23 68 66 27 146 where
  d := ⟨_, Try.underlying29, rfl, rfl⟩
  s := ⟨_, Try.underlying25, rfl, rfl⟩
  si := Try.underlying22
  bi := by kernel_rfl
  i := ⟨_, Try.underlying70, rfl⟩
  ss := Try.underlying23
  sp := Try.underlying27
  p := ⟨_, Try.underlying146, rfl⟩
  xw := xw
section
variable {H : Type} {enc : TypeId × Value → H} {W0 : World} {spare : Nat → Bool} {held : Bool} {base : Nat} {v : Value} {d : DataW H} {ps : List MemPlace} {r : Reach} {ι : AM.Map}
end
end Go.Proofs.Ythjgnmpnagmeoaa

set_option linter.unusedVariables false
set_option linter.unusedSimpArgs false
set_option maxRecDepth 100000
namespace Go.Proofs.Ythjgnmpnagmeoaa
open Go.AM Go.ChangeShapes Go.WideShapes Go.ChangeAt Go.RowKit
section
variable {H : Type} {enc : TypeId × Value → H} {W0 : World} {spare : Nat → Bool} {held : Bool} {base : Nat} {v : Value} {d : DataW H} {ps : List MemPlace} {r : Reach} {ι : AM.Map}
theorem open_sects (hval : Value.okWide Try.prog W0 r base 30 v) (h : DataW.Trod enc Try.prog W0 0 spare held 30 v d ps) : ∃ x : List Se, ((lite Try.prog Rows.uptoBulk 30 d → ∀ s ∈ x, s.Ok) ∧ SesOk x (Rows.uptoBulk d)) ∧ AM.Rel ι W0.cell? (eL 5 cSe x) v := by
  obtain ⟨fuel, hf⟩ := h
  have g := good 30 (d := .slice 56 5 64) rfl (by intro h; cases h)
  obtain ⟨vs, hty, hc⟩ := open_D tok closed_tab fuel (.slice 56 5 64) 30 [56] g rfl (fun e he => by
    simp only [List.mem_singleton] at he
    subst he
    exact ⟨(by intro h; cases h), _, rfl⟩) _ _ _ hf
  obtain ⟨x, hx, hc'⟩ := open_sesB (P := Try.prog) (tSe := 56) (tL := 30) tab_expr rfl rfl dfw ⟨_, Try.underlying56, rfl⟩ Try.underlying30 bulkN fuel 64 vs _ d hty hc
  exact ⟨x, hx, arg_one g rfl hval hc'⟩
end
end Go.Proofs.Ythjgnmpnagmeoaa

