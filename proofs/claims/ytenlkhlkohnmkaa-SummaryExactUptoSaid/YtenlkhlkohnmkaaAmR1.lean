/- The rows' arguments, opened: numbers, values, summaries. -/
import Derived.Test.YtenlkhlkohnmkaaAmR0
import Derived.Test.YtenlkhlkohnmkaaAmRow5
set_option linter.unusedVariables false
set_option linter.unusedSimpArgs false
set_option maxRecDepth 100000
namespace Go.Proofs.Ytenlkhlkohnmkaa
open Go.AM Go.ChangeShapes Go.WideShapes Go.ChangeAt Go.RowKit
section
variable {H : Type} {enc : TypeId × Value → H} {W0 : World} {spare : Nat → Bool} {held : Bool} {base : Nat} {v : Value} {d : DataW H} {ps : List MemPlace} {r : Reach} {ι : AM.Map}
theorem ty_S {T : TypeId → TD} {f : Nat} {d : TD} {vs : List Val} (h : Ty T f d vs) : ∃ sl, TyS sl d vs := by
  cases f with
  | zero => exact h.elim
  | succ f => exact ⟨_, h⟩
theorem open_wide (hval : Value.okWide Try.prog W0 r base 49 v) (h : DataW.Trod enc Try.prog W0 0 spare held 49 v d ps) : ∃ n : Wd, AM.Rel ι W0.cell? (eWd n) v := by
  obtain ⟨fuel, hf⟩ := h
  have g := good 49 (d := .arr 5 (.int .u64)) rfl (by intro h; cases h)
  obtain ⟨vs, hty, hc⟩ := open_ tok closed_tab fuel (.arr 5 (.int .u64)) 49 [] g rfl (fun e he => by simp at he) _ _ _ hf
  obtain ⟨sl, hty⟩ := ty_S hty
  obtain ⟨n, e⟩ := tyS_wide hty
  subst e
  exact ⟨n, arg_agg g rfl hval hc⟩
theorem open_dec (hval : Value.okWide Try.prog W0 r base 45 v) (h : DataW.Trod enc Try.prog W0 0 spare held 45 v d ps) : ∃ n : D, I64 n.scale ∧ AM.Rel ι W0.cell? (eD n) v := by
  obtain ⟨fuel, hf⟩ := h
  have g := good 45 (d := .struct [.bool, .arr 4 (.int .u64), .int .i64]) rfl (by intro h; cases h)
  obtain ⟨vs, hty, hc⟩ := open_ tok closed_tab fuel (.struct [.bool, .arr 4 (.int .u64), .int .i64]) 45 [] g rfl (fun e he => by simp at he) _ _ _ hf
  obtain ⟨sl, hty⟩ := ty_S hty
  obtain ⟨n, hn, e⟩ := tyS_dec hty
  subst e
  exact ⟨n, hn, arg_agg g rfl hval hc⟩
theorem open_val (hval : Value.okWide Try.prog W0 r base 47 v) (h : DataW.Trod enc Try.prog W0 0 spare held 47 v d ps) : ∃ n : Vl, n.wf ∧ AM.Rel ι W0.cell? (eV n) v := by
  obtain ⟨fuel, hf⟩ := h
  have g := good 47 (d := .struct [.int .i64, .struct [.bool, .arr 4 (.int .u64), .int .i64], .bool, .str, .int .i64]) rfl (by intro h; cases h)
  obtain ⟨vs, hty, hc⟩ := open_ tok closed_tab fuel (.struct [.int .i64, .struct [.bool, .arr 4 (.int .u64), .int .i64], .bool, .str, .int .i64]) 47 [] g rfl (fun e he => by simp at he) _ _ _ hf
  obtain ⟨sl, hty⟩ := ty_S hty
  obtain ⟨n, hn, e⟩ := tyS_val hty
  subst e
  exact ⟨n, hn, arg_agg g rfl hval hc⟩
theorem open_sum (hval : Value.okWide Try.prog W0 r base 51 v) (h : DataW.Trod enc Try.prog W0 0 spare held 51 v d ps) : ∃ n : Sm, n.wf ∧ AM.Rel ι W0.cell? (eS n) v := by
  obtain ⟨fuel, hf⟩ := h
  have g := good 51 (d := .struct [.int .i64, .int .i64, .int .i64, .int .i64, .int .i64, .arr 5 (.int .u64), .bool, .struct [.bool, .arr 4 (.int .u64), .int .i64], .struct [.bool, .arr 4 (.int .u64), .int .i64]]) rfl (by intro h; cases h)
  obtain ⟨vs, hty, hc⟩ := open_ tok closed_tab fuel (.struct [.int .i64, .int .i64, .int .i64, .int .i64, .int .i64, .arr 5 (.int .u64), .bool, .struct [.bool, .arr 4 (.int .u64), .int .i64], .struct [.bool, .arr 4 (.int .u64), .int .i64]]) 51 [] g rfl (fun e he => by simp at he) _ _ _ hf
  obtain ⟨sl, hty⟩ := ty_S hty
  obtain ⟨n, hn, e⟩ := tyS_sum hty
  subst e
  exact ⟨n, hn, arg_agg g rfl hval hc⟩
end
end Go.Proofs.Ytenlkhlkohnmkaa
