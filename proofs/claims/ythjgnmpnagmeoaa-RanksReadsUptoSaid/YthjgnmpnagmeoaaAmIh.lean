/- The rows' arguments, opened: expressions with their weight and their bulk; tables. -/
import Derived.Test.YthjgnmpnagmeoaaAmHq
import Derived.Test.YthjgnmpnagmeoaaAmHu
import Derived.Test.YthjgnmpnagmeoaaAmIg
set_option linter.unusedVariables false
set_option linter.unusedSimpArgs false
set_option maxRecDepth 100000
namespace Go.Proofs.Ythjgnmpnagmeoaa
open Go.AM Go.ChangeShapes Go.WideShapes Go.ChangeAt Go.RowKit
theorem xw : XW Try.prog 68 66 := ⟨⟨_, Try.underlying68, rfl⟩, Try.underlying66, by kernel_rfl⟩
theorem bulkN_all {H : Type} : ∀ l : List (DataW H), (l.map Rows.uptoBulk).sum = Rows.uptoBulkAll l
  | [] => by simp [Rows.uptoBulkAll]
  | d :: r => by rw [List.map_cons, List.sum_cons, bulkN_all r]; simp [Rows.uptoBulkAll]
theorem bulkN_one {H : Type} (d : DataW H) : 1 ≤ Rows.uptoBulk d := by
  cases d with
  | lit l => cases l <;> simp [Rows.uptoBulk]
  | nil => simp [Rows.uptoBulk]
  | ptr d => simp [Rows.uptoBulk]
  | slice elems spare => simp [Rows.uptoBulk]
  | agg parts => simp [Rows.uptoBulk]
  | iface t d => simp [Rows.uptoBulk]
  | map entries => simp [Rows.uptoBulk]
  | held h => simp [Rows.uptoBulk]
theorem bulkN {H : Type} : Bulk (H := H) Rows.uptoBulk := by
  refine ⟨fun parts p hp => ?_, fun elems spare => ?_, bulkN_one⟩
  · have : Rows.uptoBulk p ≤ Rows.uptoBulkAll parts := by
      induction parts with
      | nil => cases hp
      | cons x r ih =>
        simp only [Rows.uptoBulkAll]
        rcases List.mem_cons.1 hp with rfl | hp
        · omega
        · have := ih hp; omega
    simp only [Rows.uptoBulk]; omega
  · rw [bulkN_all]; simp only [Rows.uptoBulk]; omega
section
variable {H : Type} {enc : TypeId × Value → H} {W0 : World} {spare : Nat → Bool} {held : Bool} {base : Nat} {v : Value} {d : DataW H} {ps : List MemPlace} {r : Reach} {ι : AM.Map}
end
end Go.Proofs.Ythjgnmpnagmeoaa

set_option linter.unusedVariables false
set_option linter.unusedSimpArgs false
set_option maxRecDepth 100000
namespace Go.Proofs.Ythjgnmpnagmeoaa
open Go.AM Go.ChangeShapes Go.WideShapes Go.ChangeAt Go.RowKit
theorem dfw : DefW Try.prog 29 25 22 70 23 68 66 27 146 where
  d := ⟨_, Try.underlying29, rfl, rfl⟩
  s := ⟨_, Try.underlying25, rfl, rfl⟩
  si := Try.underlying22
  bi := by kernel_rfl
  i := ⟨_, Try.underlying70, rfl⟩
  ss := Try.underlying23
  sp := Try.underlying27
  p := ⟨_, Try.underlying146, rfl⟩
  xw := xw
section
variable {H : Type} {enc : TypeId × Value → H} {W0 : World} {spare : Nat → Bool} {held : Bool} {base : Nat} {v : Value} {d : DataW H} {ps : List MemPlace} {r : Reach} {ι : AM.Map}
end
end Go.Proofs.Ythjgnmpnagmeoaa

