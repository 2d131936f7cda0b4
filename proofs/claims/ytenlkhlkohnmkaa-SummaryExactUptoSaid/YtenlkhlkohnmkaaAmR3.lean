/- The rows' arguments, opened: slices of numbers. -/
import Derived.Test.YtenlkhlkohnmkaaAmR2
set_option linter.unusedVariables false
set_option linter.unusedSimpArgs false
set_option maxRecDepth 100000
namespace Go.Proofs.Ytenlkhlkohnmkaa
open Go.AM Go.ChangeShapes Go.WideShapes Go.ChangeAt Go.RowKit
section
variable {H : Type} {enc : TypeId × Value → H} {W0 : World} {spare : Nat → Bool} {held : Bool} {base : Nat} {v : Value} {d : DataW H} {ps : List MemPlace} {r : Reach} {ι : AM.Map}
theorem open_decs (hval : Value.okWide Try.prog W0 r base 69 v) (h : DataW.Trod enc Try.prog W0 0 spare held 69 v d ps) : ∃ x : Sl D, (ExtL cD x.n x.g x.l ∧ ∀ y ∈ x.l, I64 y.scale) ∧ x.n ≤ Rows.uptoBulk d ∧ AM.Rel ι W0.cell? (.ext 6 x.n x.g) v := by
  obtain ⟨fuel, hf⟩ := h
  have g := good 69 (d := .slice 45 6 48) rfl (by intro h; cases h)
  obtain ⟨vs, hty, hc⟩ := open_ tok closed_tab fuel (.slice 45 6 48) 69 [45] g rfl (fun e he => by
    simp only [List.mem_singleton] at he
    subst he
    exact ⟨(by intro h; cases h), _, rfl⟩) _ _ _ hf
  cases fuel with
  | zero => exact hty.elim
  | succ f =>
    simp only [Ty, TyS] at hty
    obtain ⟨n, get, rfl, hn, hget⟩ := hty
    obtain ⟨l, hl, hw⟩ := list_of (P := fun y : D => I64 y.scale) (enc := cD) (g := get) (n := n) (fun i hi => by
      obtain ⟨sl, hs⟩ := ty_S (hget i hi).2
      exact tyS_dec hs)
    have hr : AM.Rel ι W0.cell? (.ext 6 n get) v := arg_one g rfl hval hc
    refine ⟨⟨n, get, l⟩, ⟨hl, hw⟩, ext_bulk (by simp only [AM.Good] at g; exact g.1) (trod_one hf (slice_cells (e := 0) hr)) hr, hr⟩
end
end Go.Proofs.Ytenlkhlkohnmkaa
