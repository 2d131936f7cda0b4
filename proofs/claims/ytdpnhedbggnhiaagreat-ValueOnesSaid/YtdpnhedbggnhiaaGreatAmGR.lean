/- The rows' arguments, opened. -/
import Derived.Test.YtdpnhedbggnhiaaGreatAmA0
import Derived.Test.YtdpnhedbggnhiaaGreatAmHh
import Derived.WalkKit
import Derived.ProofKit
import Derived.OpenShut
import Derived.ShutString
import Derived.ChangeOld
import Derived.SizedLaws
set_option linter.unusedVariables false
set_option linter.unusedSimpArgs false
set_option maxRecDepth 100000
namespace Go.Proofs.YtdpnhedbggnhiaaGreat
open Go.AM Go.ChangeShapes Go.WideShapes Go.ChangeAt Go.RowKit
theorem own : ownKnob Tryz.prog.godebug = none := by kernel_rfl
theorem laidOut : laidOutB Tryz.prog = true := by kernel_rfl
theorem closed_tab : AM.Closed tab := closedTB_ok (l := tbl) (by kernel_rfl)
theorem good (t : TypeId) {d : TD} (h : tab t = d) (hd : d ≠ .bad) : AM.Good Tryz.prog d t := by subst h; exact tok.good hd
section
variable {H : Type} {enc : TypeId × Value → H} {W0 : World} {spare : Nat → Bool} {held : Bool} {base : Nat} {v : Value} {d : DataW H} {ps : List MemPlace} {r : Reach} {ι : AM.Map}
theorem open_int (hval : Value.okWide Tryz.prog W0 r base 3 v) (h : DataW.Trod enc Tryz.prog W0 0 spare held 3 v d ps) : ∃ n : Int, I64 n ∧ AM.Rel ι W0.cell? (.int .i64 n) v := by
  obtain ⟨fuel, hf⟩ := h
  have g := good 3 (d := .int .i64) rfl (by intro h; cases h)
  obtain ⟨vs, hty, hc⟩ := open_ tok closed_tab fuel (.int .i64) 3 [] g rfl (fun e he => by simp at he) _ _ _ hf
  obtain ⟨n, e, hw⟩ := ty_int hty
  subst e
  exact ⟨n, wfi64 hw, arg_one g rfl hval hc⟩
end
end Go.Proofs.YtdpnhedbggnhiaaGreat

set_option linter.unusedVariables false
set_option linter.unusedSimpArgs false
set_option maxRecDepth 100000
namespace Go.Proofs.YtdpnhedbggnhiaaGreat
open Go.AM Go.ChangeShapes Go.WideShapes Go.ChangeAt Go.RowKit
section
variable {H : Type} {enc : TypeId × Value → H} {W0 : World} {spare : Nat → Bool} {held : Bool} {base : Nat} {v : Value} {d : DataW H} {ps : List MemPlace} {r : Reach} {ι : AM.Map}
theorem ty_S {T : TypeId → TD} {f : Nat} {d : TD} {vs : List Val} (h : Ty T f d vs) : ∃ sl, TyS sl d vs := by
  cases f with
  | zero => exact h.elim
  | succ f => exact ⟨_, h⟩
end
end Go.Proofs.YtdpnhedbggnhiaaGreat

set_option linter.unusedVariables false
set_option linter.unusedSimpArgs false
set_option maxRecDepth 100000
namespace Go.Proofs.YtdpnhedbggnhiaaGreat
open Go.AM Go.ChangeShapes Go.WideShapes Go.ChangeAt Go.RowKit
section
variable {H : Type} {enc : TypeId × Value → H} {W0 : World} {spare : Nat → Bool} {held : Bool} {base : Nat} {v : Value} {d : DataW H} {ps : List MemPlace} {r : Reach} {ι : AM.Map}
theorem open_val (hval : Value.okWide Tryz.prog W0 r base 28 v) (h : DataW.Trod enc Tryz.prog W0 0 spare held 28 v d ps) : ∃ n : Vl, n.wf ∧ AM.Rel ι W0.cell? (eV n) v := by
  obtain ⟨fuel, hf⟩ := h
  have g := good 28 (d := .struct [.int .i64, .struct [.bool, .arr 4 (.int .u64), .int .i64], .bool, .str, .int .i64]) rfl (by intro h; cases h)
  obtain ⟨vs, hty, hc⟩ := open_ tok closed_tab fuel (.struct [.int .i64, .struct [.bool, .arr 4 (.int .u64), .int .i64], .bool, .str, .int .i64]) 28 [] g rfl (fun e he => by simp at he) _ _ _ hf
  obtain ⟨sl, hty⟩ := ty_S hty
  obtain ⟨n, hn, e⟩ := tyS_val hty
  subst e
  exact ⟨n, hn, arg_agg g rfl hval hc⟩
end
end Go.Proofs.YtdpnhedbggnhiaaGreat

