/- exciseref11.ranked. -/
import Derived.Test.YthjgnmpnagmeoaaAmIk
set_option linter.unusedVariables false
set_option linter.unusedSimpArgs false
set_option maxRecDepth 100000
namespace Go.Proofs.Ythjgnmpnagmeoaa
open Go.AM
/-- a row of numbers, whatever lies behind its end -/
def gU (L : List Int) : Nat → List Val := fun i => cI (L.getD i 0)
theorem gU_set {L : List Int} {i : Nat} {v : Int} (h : i < L.length) : (fun k => if k = i then (gU L i).take 0 ++ [Val.int .i64 v] ++ (gU L i).drop (0 + [Val.int .i64 v].length) else gU L k) = gU (L.set i v) := by
  funext k
  unfold gU
  rw [List.getD_eq_getElem?_getD (l := L.set i v), List.getElem?_set]
  by_cases e : k = i
  · subst e
    rw [if_pos rfl, if_pos rfl, if_pos h]
    rfl
  · rw [if_neg e, if_neg (fun e' => e e'.symm), ← List.getD_eq_getElem?_getD]
theorem gU_ext (L : List Int) : ExtL cI L.length (gU L) L := ⟨rfl, fun i h => by unfold gU; rw [List.getD_eq_getElem?_getD, List.getElem?_eq_getElem h]; rfl⟩
end Go.Proofs.Ythjgnmpnagmeoaa

set_option linter.unusedVariables false
set_option linter.unusedSimpArgs false
set_option maxRecDepth 100000
namespace Go.Proofs.Ythjgnmpnagmeoaa
open Go.AM
end Go.Proofs.Ythjgnmpnagmeoaa

