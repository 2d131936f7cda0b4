/- A contract whose value is a tuple that holds rows: the rows lent, for good. -/
import Derived.Test.YthjgnmpnagmeoaaAmHn
import Derived.Test.YthjgnmpnagmeoaaAmGV
set_option linter.unusedVariables false
set_option linter.unusedSimpArgs false
set_option maxRecDepth 100000
namespace Go.AM
open Go.RowKit
theorem Ret.lendT {P : Program} {f : FuncId} {ar : List Val} {vs vs' : List Val} {h1 : List Blk} (hr : Ret P f ar [] (.tup vs) h1) (hl : lentAsK (h1.map raiseB) [] none vs fun x _ o => x = vs' ∧ optP o) (hc : closedR (.tup vs') = true) : Ret P f ar [] (.tup vs') [] := by
  refine ⟨hr.1, fun ι φ w cargs hn hs ht => (hr.2 ι φ w cargs hn hs ht).mono ?_⟩
  rintro e w' ⟨cv, ι', φ', rfl, hm, hI, hv, hend⟩
  obtain ⟨x, r', o', ⟨rfl, ho⟩, _, hL⟩ := lentAsK_ok hl
  obtain ⟨_, hL1, hL2⟩ := hL ho
  obtain ⟨us, rfl, hus, hrel⟩ := hv.tup_
  obtain ⟨φ2, hp, hI2, hv2⟩ := hL2 _ _ _ _ _ _ (getH (h1.map raiseB)) (fun i => us.getD i undef) (fun _ _ => rfl) (hI.raise fun b => by
    rcases Nat.lt_or_ge b h1.length with hb | hb
    · exact .inr (by simp [getH, List.getD_eq_getElem?_getD, hb])
    · exact .inl (by rw [getH_ge hb, getH_ge (by simpa using hb)])) hrel
  have hm0 : MapLe ι (fun _ => none) := fun b p hb => by rw [hn b (Nat.zero_le _)] at hb; cases hb
  have hT : Rel ι' φ2 (.tup x) (.tuple us) := .tup x us (by rw [hL1]; exact hus) fun i hi => hv2 i (by rw [← hL1]; exact hi)
  exact ⟨.tuple us, fun _ => none, φ2, rfl, hm0, hI2.drop, hT.closedR_ hc, fun _ _ => rfl⟩
end Go.AM

