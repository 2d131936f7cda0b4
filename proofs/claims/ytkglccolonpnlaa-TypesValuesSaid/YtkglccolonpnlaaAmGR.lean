/- The rows' arguments, opened. -/
import Derived.Test.YtkglccolonpnlaaAmA0
import Derived.Test.YtkglccolonpnlaaAmRow4
import Derived.WalkKit
import Derived.ProofKit
import Derived.OpenShut
import Derived.ShutString
import Derived.ChangeOld
import Derived.SizedLaws
import Derived.Test.YtkglccolonpnlaaAmRow5
set_option linter.unusedVariables false
set_option linter.unusedSimpArgs false
set_option maxRecDepth 100000
namespace Go.Proofs.Ytkglccolonpnlaa
open Go.AM Go.ChangeShapes Go.WideShapes Go.ChangeAt Go.RowKit
theorem own : ownKnob Try.prog.godebug = none := by kernel_rfl
theorem laidOut : laidOutB Try.prog = true := by kernel_rfl
theorem closed_tab : AM.Closed tab := closedTB_ok (l := tbl) (by kernel_rfl)
theorem good (t : TypeId) {d : TD} (h : tab t = d) (hd : d ≠ .bad) : AM.Good Try.prog d t := by subst h; exact tok.good hd
section
variable {H : Type} {enc : TypeId × Value → H} {W0 : World} {spare : Nat → Bool} {held : Bool} {base : Nat} {v : Value} {d : DataW H} {ps : List MemPlace} {r : Reach} {ι : AM.Map}
theorem open_nat (hval : Value.okWide Try.prog W0 r base 24 v) (h : DataW.Trod enc Try.prog W0 0 spare held 24 v d ps) : ∃ n : N, AM.Rel ι W0.cell? (eN n) v := by
  obtain ⟨fuel, hf⟩ := h
  have g := good 24 (d := .arr 4 (.int .u64)) rfl (by intro h; cases h)
  obtain ⟨vs, hty, hc⟩ := open_ tok closed_tab fuel (.arr 4 (.int .u64)) 24 [] g rfl (fun e he => by simp at he) _ _ _ hf
  obtain ⟨n, e⟩ := ty_nat hty
  subst e
  exact ⟨n, arg_agg g rfl hval hc⟩
theorem open_int (hval : Value.okWide Try.prog W0 r base 3 v) (h : DataW.Trod enc Try.prog W0 0 spare held 3 v d ps) : ∃ n : Int, I64 n ∧ AM.Rel ι W0.cell? (.int .i64 n) v := by
  obtain ⟨fuel, hf⟩ := h
  have g := good 3 (d := .int .i64) rfl (by intro h; cases h)
  obtain ⟨vs, hty, hc⟩ := open_ tok closed_tab fuel (.int .i64) 3 [] g rfl (fun e he => by simp at he) _ _ _ hf
  obtain ⟨n, e, hw⟩ := ty_int hty
  subst e
  exact ⟨n, wfi64 hw, arg_one g rfl hval hc⟩
end
end Go.Proofs.Ytkglccolonpnlaa
set_option linter.unusedVariables false
set_option linter.unusedSimpArgs false
set_option maxRecDepth 100000
namespace Go.Proofs.Ytkglccolonpnlaa
open Go.AM Go.ChangeShapes Go.WideShapes Go.ChangeAt Go.RowKit
section
variable {H : Type} {enc : TypeId × Value → H} {W0 : World} {spare : Nat → Bool} {held : Bool} {base : Nat} {v : Value} {d : DataW H} {ps : List MemPlace} {r : Reach} {ι : AM.Map}
theorem ty_S {T : TypeId → TD} {f : Nat} {d : TD} {vs : List Val} (h : Ty T f d vs) : ∃ sl, TyS sl d vs := by
  cases f with
  | zero => exact h.elim
  | succ f => exact ⟨_, h⟩
theorem open_dec (hval : Value.okWide Try.prog W0 r base 26 v) (h : DataW.Trod enc Try.prog W0 0 spare held 26 v d ps) : ∃ n : D, I64 n.scale ∧ AM.Rel ι W0.cell? (eD n) v := by
  obtain ⟨fuel, hf⟩ := h
  have g := good 26 (d := .struct [.bool, .arr 4 (.int .u64), .int .i64]) rfl (by intro h; cases h)
  obtain ⟨vs, hty, hc⟩ := open_ tok closed_tab fuel (.struct [.bool, .arr 4 (.int .u64), .int .i64]) 26 [] g rfl (fun e he => by simp at he) _ _ _ hf
  obtain ⟨sl, hty⟩ := ty_S hty
  obtain ⟨n, hn, e⟩ := tyS_dec hty
  subst e
  exact ⟨n, hn, arg_agg g rfl hval hc⟩
end
end Go.Proofs.Ytkglccolonpnlaa
set_option linter.unusedVariables false
set_option linter.unusedSimpArgs false
set_option maxRecDepth 100000
namespace Go.Proofs.Ytkglccolonpnlaa
open Go.AM Go.ChangeShapes Go.WideShapes Go.ChangeAt Go.RowKit
section
variable {H : Type} {enc : TypeId × Value → H} {W0 : World} {spare : Nat → Bool} {held : Bool} {base : Nat} {v : Value} {d : DataW H} {ps : List MemPlace} {r : Reach} {ι : AM.Map}
theorem open_val (hval : Value.okWide Try.prog W0 r base 28 v) (h : DataW.Trod enc Try.prog W0 0 spare held 28 v d ps) : ∃ n : Vl, n.wf ∧ AM.Rel ι W0.cell? (eV n) v := by
  obtain ⟨fuel, hf⟩ := h
  have g := good 28 (d := .struct [.int .i64, .struct [.bool, .arr 4 (.int .u64), .int .i64], .bool, .str, .int .i64]) rfl (by intro h; cases h)
  obtain ⟨vs, hty, hc⟩ := open_ tok closed_tab fuel (.struct [.int .i64, .struct [.bool, .arr 4 (.int .u64), .int .i64], .bool, .str, .int .i64]) 28 [] g rfl (fun e he => by simp at he) _ _ _ hf
  obtain ⟨sl, hty⟩ := ty_S hty
  obtain ⟨n, hn, e⟩ := tyS_val hty
  subst e
  exact ⟨n, hn, arg_agg g rfl hval hc⟩
theorem open_type (hval : Value.okWide Try.prog W0 r base 30 v) (h : DataW.Trod enc Try.prog W0 0 spare held 30 v d ps) : ∃ n : Int × Int, (I64 n.1 ∧ I64 n.2) ∧ AM.Rel ι W0.cell? (.agg [.int .i64 n.1, .int .i64 n.2]) v := by
  obtain ⟨fuel, hf⟩ := h
  have g := good 30 (d := .struct [.int .i64, .int .i64]) rfl (by intro h; cases h)
  obtain ⟨vs, hty, hc⟩ := open_ tok closed_tab fuel (.struct [.int .i64, .int .i64]) 30 [] g rfl (fun e he => by simp at he) _ _ _ hf
  obtain ⟨sl, hty⟩ := ty_S hty
  rw [TyS] at hty
  obtain ⟨a0, r0, e0, t0, hty⟩ := tyF_cons hty
  obtain ⟨a1, r1, e1, t1, hty⟩ := tyF_cons hty
  obtain ⟨k, rfl, hk⟩ := tyS_i64 t0
  obtain ⟨s, rfl, hs⟩ := tyS_i64 t1
  have := tyF_nil hty
  subst this e1 e0
  exact ⟨(k, s), ⟨hk, hs⟩, arg_agg g rfl hval hc⟩
end
end Go.Proofs.Ytkglccolonpnlaa
