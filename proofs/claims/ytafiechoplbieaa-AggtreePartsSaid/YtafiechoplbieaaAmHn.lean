/- slices.Sorted over a map's keys, as a contract: the shelf's theorems carried to the abstract machine. -/
import Derived.Test.YtafiechoplbieaaAmHf
import Derived.Test.YtafiechoplbieaaAmGU
import Derived.Shelf.SlIter.Nil
import Derived.Test.YtafiechoplbieaaAmHj
set_option linter.unusedVariables false
set_option linter.unusedSimpArgs false
set_option maxRecDepth 100000
namespace Go.AM
open Go.RowKit Go.Maps Go.Sort Go.Shelf Go.MapKept
open Go.Proofs (encStr)

def cB (x : List UInt8) : List Val := [.str ⟨x.toArray⟩]
/-- More was made: nothing of what there was has turned. -/
theorem Inv.below {ι : Map} {φ φ' : Prot} {h : List Blk} {w w' : World} (hs : Sim ι φ (getH h) w) (hb : Below w.heap.size w w') (hp : ProtLe φ φ')
    (hn : ∀ a v, φ' a = some v → φ a = some v ∨ (w.heap.size ≤ a.block ∧ w'.cell? a = some v)) : Inv w (handed ι h) φ ι φ' (getH h) w' := by
  have plt : ∀ b g c, getH h b ≠ .gone → ι b = some (g, c) → g < w.heap.size := fun b g c hx e => by
    obtain ⟨g', c', e', hl⟩ := (hs.blk b).place hx
    rw [e] at e'; injection e' with e'; injection e' with e1 _; omega
  have gone_ge : ∀ b, getH h b ≠ .gone → b < h.length := fun b hx => by
    rcases Nat.lt_or_ge b h.length with h1 | h1
    · exact h1
    · exact absurd (getH_ge h1) hx
  refine ⟨⟨fun b => ?_, hs.inj, fun a v ha => ?_⟩, ⟨hb.os, hb.tape, hb.output, hb.size, fun g hg _ => hb.block g hg⟩, fun b g c hx e => ?_, fun a ha => ?_, hp⟩
  · refine (hs.blk b).mono (.refl _) hp (fun g c e hx => hb.block g (plt b g c hx e)) (fun g c e hx off sp hf => ?_)
    cases hv : φ' ⟨g, off, sp⟩ with
    | none => rfl
    | some v =>
      rcases hn _ _ hv with h1 | h1
      · rw [hf] at h1; cases h1
      · have := plt b g c hx e
        have h2 := h1.1
        simp only at h2
        omega
  · rcases hn _ _ ha with h1 | h1
    · have hc := hs.prot a v h1
      rw [← hc]
      exact World.cell?_of_block (hb.block a.block (cell_lt hc))
    · exact h1.2
  · exact .inl ⟨b, c, gone_ge b hx, hx, e⟩
  · cases hv : φ' a with
    | none => exact absurd hv ha
    | some v =>
      rcases hn _ _ hv with h1 | h1
      · exact .inl (by rw [h1]; simp)
      · exact .inr (.inr h1.1)

end Go.AM

set_option linter.unusedVariables false
set_option linter.unusedSimpArgs false
set_option maxRecDepth 100000
namespace Go.AM
section
variable {α : Type}
mutual
/-- f at each node, the node ahead of its arguments -/
def walkF (f : Xp → α → α) : Xp → α → α
  | .mk k o n s v sc p ar, a => walkL f ar (f (.mk k o n s v sc p ar) a)
def walkL (f : Xp → α → α) : List Xp → α → α
  | [], a => a
  | x :: r, a => walkL f r (walkF f x a)
end
end
end Go.AM

set_option linter.unusedVariables false
set_option linter.unusedSimpArgs false
set_option maxRecDepth 100000
namespace Go.AM
open Go.RowKit
theorem Inv.drop {w0 w : World} {S : Nat → Prop} {φ0 φ : Prot} {ι : Map} {H : Nat → Blk} (hI : Inv w0 S φ0 ι φ H w) : Inv w0 S φ0 (fun _ => none) φ (getH []) w := by
  have e : ∀ b, getH [] b = .gone := fun b => getH_ge (Nat.zero_le _)
  exact ⟨⟨fun b => by rw [e]; trivial, fun b b' g c c' h => absurd (e b) h, hI.sim.prot⟩, hI.keep, fun b g c h => absurd (e b) h, hI.new, hI.le⟩
/-- What is handed back is outer memory from then on. -/
theorem Ret.lend {P : Program} {f : FuncId} {ar : List Val} {v v' : Val} {h1 : List Blk} (hr : Ret P f ar [] v h1) (hl : lentAK (h1.map raiseB) [] none v fun x _ o => x = v' ∧ optP o) (hc : closedR v' = true) : Ret P f ar [] v' [] := by
  refine ⟨hr.1, fun ι φ w cargs hn hs ht => (hr.2 ι φ w cargs hn hs ht).mono ?_⟩
  rintro e w' ⟨cv, ι', φ', rfl, hm, hI, hv, hend⟩
  obtain ⟨x, r', o', ⟨rfl, ho⟩, _, hL⟩ := lentAK_ok hl
  obtain ⟨_, hL⟩ := hL ho
  obtain ⟨φ2, hp, hI2, hv2⟩ := hL _ _ _ _ _ _ (getH (h1.map raiseB)) cv (fun _ _ => rfl) (hI.raise fun b => by
    rcases Nat.lt_or_ge b h1.length with hb | hb
    · exact .inr (by simp [getH, List.getD_eq_getElem?_getD, hb])
    · exact .inl (by rw [getH_ge hb, getH_ge (by simpa using hb)])) hv
  have hm0 : MapLe ι (fun _ => none) := fun b p hb => by rw [hn b (Nat.zero_le _)] at hb; cases hb
  exact ⟨cv, fun _ => none, φ2, rfl, hm0, hI2.drop, hv2.closedR_ hc, fun _ _ => rfl⟩
end Go.AM

set_option linter.unusedVariables false
set_option linter.unusedSimpArgs false
set_option maxRecDepth 100000
namespace Go.AM
open Go.RowKit
end Go.AM

