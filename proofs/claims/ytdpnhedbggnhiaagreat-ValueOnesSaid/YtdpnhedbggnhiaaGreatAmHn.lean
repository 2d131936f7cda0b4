/- slices.Sorted over a map's keys, as a contract: the shelf's theorems carried to the abstract machine. -/
import Derived.Test.YtdpnhedbggnhiaaGreatAmHf
import Derived.Test.YtdpnhedbggnhiaaGreatAmGU
import Derived.Shelf.SlIter.Nil
set_option linter.unusedVariables false
set_option linter.unusedSimpArgs false
set_option maxRecDepth 100000
namespace Go.AM
open Go.RowKit Go.Maps Go.Sort Go.Shelf Go.MapKept
open Go.Proofs (encStr)

/-- More was made: nothing of what there was has turned. -/
theorem Inv.below {ι : Map} {φ φ' : Prot} {h : List Blk} {w w' : World} (hs : Sim ι φ (getH h) w) (hb : Below w.heap.size w w') (hp : ProtLe φ φ')
    (hn : ∀ a v, φ' a = some v → φ a = some v ∨ (w.heap.size ≤ a.block ∧ w'.cell? a = some v)) : Inv w (handed ι h) φ ι φ' (getH h) w' := by
  have plt : ∀ b g c, getH h b ≠ .gone → ι b = some (g, c) → g < w.heap.size := fun b g c hx e => by
    obtain ⟨g', c', e', hl⟩ := (hs.blk b).place hx
    rw [e] at e'; injection e' with e'; injection e' with e1 _; omega
  have gone_ge : ∀ b, getH h b ≠ .gone → b < h.length := fun b hx => by
    rcases Nat.lt_or_ge b h.length with h1 | h1
    · exact h1
    · exact absurd (getH_ge h1) hx
  refine ⟨⟨fun b => ?_, hs.inj, fun a v ha => ?_⟩, ⟨hb.os, hb.tape, hb.output, hb.size, fun g hg _ => hb.block g hg⟩, fun b g c hx e => ?_, fun a ha => ?_, hp⟩
  · refine (hs.blk b).mono (.refl _) hp (fun g c e hx => hb.block g (plt b g c hx e)) (fun g c e hx off sp hf => ?_)
    cases hv : φ' ⟨g, off, sp⟩ with
    | none => rfl
    | some v =>
      rcases hn _ _ hv with h1 | h1
      · rw [hf] at h1; cases h1
      · have := plt b g c hx e
        have h2 := h1.1
        simp only at h2
        omega
  · rcases hn _ _ ha with h1 | h1
    · have hc := hs.prot a v h1
      rw [← hc]
      exact World.cell?_of_block (hb.block a.block (cell_lt hc))
    · exact h1.2
  · exact .inl ⟨b, c, gone_ge b hx, hx, e⟩
  · cases hv : φ' a with
    | none => exact absurd hv ha
    | some v =>
      rcases hn _ _ hv with h1 | h1
      · exact .inl (by rw [h1]; simp)
      · exact .inr (.inr h1.1)

end Go.AM

