/- What comes of expressions and items may be. -/
import Derived.Test.YtlbocjcponegcaaGreatAmHj
set_option linter.unusedVariables false
set_option linter.unusedSimpArgs false
set_option maxRecDepth 100000
namespace Go.AM
theorem saysD_isOk {s : Stp} {x : D} (h : (saysD s x).2 = 0) : (saysD s x).1.ok := by
  unfold saysD at h ⊢
  split at h
  · rename_i h1; exact absurd h h1
  · rename_i h1; rw [if_neg h1]
    split at h
    · rename_i h2; exact absurd h h2
    · rename_i h2; rw [if_neg h2]; exact (addD_0 h).2.2.1
theorem atT_isOk {l : List Stp} {x : D} (h : (atT l x).2 = 0) : (atT l x).1.ok := by
  unfold atT at h ⊢
  split at h
  · rename_i hf; exact absurd h hf
  · rename_i hf
    rw [if_neg hf]
    split at h
    · exact saysD_isOk h
    · exact ⟨by decide, by decide, by decide⟩
theorem tableV_valid (n : ByteArray) (v : Vl) (t : List Tb) : (tableV n v t).valid := by
  unfold tableV
  repeat' split
  all_goals first | exact mayV_valid v | exact valid_err (by omega) | exact valid_num (atT_isOk ‹_›)
theorem nodeV_valid (e : EnvS) (k o : Int) (n s : ByteArray) (v : Vl) (sc p : Int) (l : List Vl) : (nodeV e k o n s v sc p l).valid := by
  unfold nodeV
  repeat' split
  all_goals first | exact valid_err (by omega) | exact mayV_valid _ | exact negV_valid _ | exact notV_valid _ | exact blankV_valid _ | exact roundV_valid _ _ _ | exact opV_valid _ _ _ | exact ifV_valid _ _ _ | exact tableV_valid _ _ _
theorem evalE_valid (e : EnvS) (x : Xp) : (evalE e x).valid := by rw [evalE_eq]; exact nodeV_valid ..
end Go.AM

