/- The rows' arguments, opened: bracket tables. -/
import Derived.Test.YtdpnhedbggnhiaaAmGR
import Derived.Test.YtdpnhedbggnhiaaAmRowB
set_option linter.unusedVariables false
set_option linter.unusedSimpArgs false
set_option maxRecDepth 100000
namespace Go.Proofs.Ytdpnhedbggnhiaa
open Go.AM Go.ChangeShapes Go.WideShapes Go.ChangeAt Go.RowKit
section
variable {H : Type} {enc : TypeId × Value → H} {W0 : World} {spare : Nat → Bool} {held : Bool} {base : Nat} {v : Value} {d : DataW H} {ps : List MemPlace} {r : Reach} {ι : AM.Map}
theorem open_table (hval : Value.okWide Try.prog W0 r base 48 v) (h : DataW.Trod enc Try.prog W0 0 spare held 48 v d ps) : ∃ x : TbS, x.ok ∧ AM.Rel ι W0.cell? (.agg [.str x.name, .ext 18 x.n x.g]) v := by
  obtain ⟨fuel, hf⟩ := h
  have g := good 48 (d := .struct [.str, .slice 60 18 144]) rfl (by intro h; cases h)
  obtain ⟨vs, hty, hc⟩ := open_ tok closed_tab fuel (.struct [.str, .slice 60 18 144]) 48 [60] g rfl (fun e he => by
    simp only [List.mem_singleton] at he
    subst he
    exact ⟨(by intro h; cases h), _, rfl⟩) _ _ _ hf
  cases fuel with
  | zero => exact hty.elim
  | succ f =>
    rw [Ty, TyS] at hty
    obtain ⟨a0, r0, e0, t0, hty⟩ := tyF_cons hty
    obtain ⟨a1, r1, e1, t1, hty⟩ := tyF_cons hty
    obtain ⟨s, rfl, hs⟩ := tyS_str t0
    obtain ⟨n, get, rfl, hn, hget⟩ := tyS_slice t1
    have := tyF_nil hty
    subst this e1 e0
    obtain ⟨l, hl, hw⟩ := list_of (P := Stp.wf) (enc := cSt) (g := get) (n := n) (fun i hi => by
      obtain ⟨sl, hs⟩ := ty_S (hget i hi).2
      exact tyS_stp hs)
    exact ⟨⟨s, n, get, l⟩, ⟨hl, hn, hw, hs⟩, arg_agg g rfl hval hc⟩
end
end Go.Proofs.Ytdpnhedbggnhiaa
