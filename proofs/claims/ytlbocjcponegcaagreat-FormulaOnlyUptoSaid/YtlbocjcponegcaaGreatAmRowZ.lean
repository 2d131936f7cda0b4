/- An item, read from a row's argument. -/
import Derived.Test.YtlbocjcponegcaaGreatAmHi
import Derived.Test.YtlbocjcponegcaaGreatAmHj
set_option linter.unusedVariables false
set_option linter.unusedSimpArgs false
set_option maxRecDepth 100000
namespace Go.AM
theorem CellsRel.drop {φ : Prot} {p a : List Val} {cs : List Value} (h : CellsRel φ (p ++ a) cs) : CellsRel φ a (cs.drop p.length) := by
  have h1 := h.1
  refine ⟨by rw [List.length_drop, h1]; simp, fun k hk => ?_⟩
  have := h.2 (p.length + k) (by simp; omega)
  rw [List.getD_eq_getElem?_getD, List.getD_eq_getElem?_getD, List.getElem?_append_right (by omega), Nat.add_sub_cancel_left] at this
  rw [List.getD_eq_getElem?_getD, List.getD_eq_getElem?_getD, List.getElem?_drop]
  exact this
theorem CellsRel.tail {φ : Prot} {p a b : List Val} {cs : List Value} (h : CellsRel φ (p ++ a) cs) (hb : CellsRel φ b (cs.drop p.length)) (hl : b.length = a.length) : CellsRel φ (p ++ b) cs := by
  refine ⟨by rw [h.1]; simp [hl], fun k hk => ?_⟩
  rcases Nat.lt_or_ge k p.length with hp | hp
  · have := h.2 k (by simp; omega)
    rw [List.getD_eq_getElem?_getD, List.getD_eq_getElem?_getD, List.getElem?_append_left hp] at this
    rw [List.getD_eq_getElem?_getD, List.getD_eq_getElem?_getD, List.getElem?_append_left hp]
    exact this
  · have := hb.2 (k - p.length) (by simp at hk; omega)
    rw [List.getD_eq_getElem?_getD, List.getD_eq_getElem?_getD, List.getElem?_drop, Nat.add_sub_cancel' hp] at this
    rw [List.getD_eq_getElem?_getD, List.getD_eq_getElem?_getD, List.getElem?_append_right hp]
    exact this
structure It.Wf (i : It) : Prop where
  name : i.name.size ≤ maxLen
  kind : I64 i.kind
  tk : I64 i.tk
  ts : I64 i.ts
  pol : I64 i.pol
  expr : i.expr.Wf
end Go.AM

