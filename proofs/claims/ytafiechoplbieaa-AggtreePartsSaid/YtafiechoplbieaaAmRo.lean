/- The rows' arguments, opened: scripts on a tree. -/
import Derived.Test.YtafiechoplbieaaAmHw
import Derived.Test.YtafiechoplbieaaAmRowO
import Derived.Test.YtafiechoplbieaaAmHy
set_option linter.unusedVariables false
set_option linter.unusedSimpArgs false
set_option maxRecDepth 100000
namespace Go.Proofs.Ytafiechoplbieaa
open Go.AM Go.ChangeShapes Go.WideShapes Go.ChangeAt Go.RowKit
section
variable {H : Type} {enc : TypeId × Value → H} {W0 : World} {spare : Nat → Bool} {held : Bool} {base : Nat} {v : Value} {d : DataW H} {ps : List MemPlace} {r : Reach} {ι : AM.Map}
theorem open_ops (hval : Value.okWide Try.prog W0 r base 23 v) (h : DataW.Trod enc Try.prog W0 0 spare held 23 v d ps) : ∃ x : List Sop, (x.length ≤ maxLen ∧ ∀ o ∈ x, o.v.length ≤ maxLen) ∧ AM.Rel ι W0.cell? (eL 7 cOp x) v := by
  obtain ⟨fuel, hf⟩ := h
  have g := good 23 (d := .slice 31 7 72) rfl (by intro h; cases h)
  obtain ⟨vs, hty, hc⟩ := open_ tokR closed_tab fuel (.slice 31 7 72) 23 [31] g rfl (fun e he => by
    simp only [List.mem_singleton] at he
    subst he
    exact ⟨(by intro h; cases h), _, rfl⟩) _ _ _ hf
  cases fuel with
  | zero => exact hty.elim
  | succ f =>
    simp only [Ty, TyS] at hty
    obtain ⟨n, get, rfl, hn, hget⟩ := hty
    obtain ⟨l, hl, hw⟩ := list_of (P := SopS.ok) (enc := cOpS) (g := get) (n := n) (fun i hi => by
      have h2 : Ty tabR f (tdOp 54) (get i) := (hget i hi).2
      exact ty_op (T := tabR) rfl h2)
    have hr : AM.Rel ι W0.cell? (.ext 7 n get) v := arg_one g rfl hval hc
    refine ⟨l.map SopS.op, ⟨by have := hl.1; rw [List.length_map]; omega, fun o ho => ?_⟩, .c (ops_rel hl hw (hr.closed_ rfl))⟩
    obtain ⟨y, hy, rfl⟩ := List.mem_map.1 ho
    have := (hw y hy).len
    have h2 := (hw y hy).ext.1
    show y.l.length ≤ maxLen
    omega
theorem open_ints (hval : Value.okWide Try.prog W0 r base 22 v) (h : DataW.Trod enc Try.prog W0 0 spare held 22 v d ps) : ∃ x : List Int, x.length ≤ maxLen ∧ AM.Rel ι W0.cell? (eL 1 cI x) v := by
  obtain ⟨fuel, hf⟩ := h
  have g := good 22 (d := .slice 3 1 8) rfl (by intro h; cases h)
  obtain ⟨vs, hty, hc⟩ := open_ tokR closed_tab fuel (.slice 3 1 8) 22 [3] g rfl (fun e he => by
    simp only [List.mem_singleton] at he
    subst he
    exact ⟨(by intro h; cases h), _, rfl⟩) _ _ _ hf
  cases fuel with
  | zero => exact hty.elim
  | succ f =>
    simp only [Ty, TyS] at hty
    obtain ⟨n, get, rfl, hn, hget⟩ := hty
    obtain ⟨l, hl, hw⟩ := list_of (P := fun _ : Int => True) (enc := cI) (g := get) (n := n) (fun i hi => by
      obtain ⟨b, e, w⟩ := ty_int (hget i hi).2
      exact ⟨b, trivial, e⟩)
    have hr : AM.Rel ι W0.cell? (.ext 1 n get) v := arg_one g rfl hval hc
    exact ⟨l, by have := hl.1; omega, .c (RelC.toL hl (fun _ => rfl) (hr.closed_ rfl))⟩
theorem open_u8 (hval : Value.okWide Try.prog W0 r base 5 v) (h : DataW.Trod enc Try.prog W0 0 spare held 5 v d ps) : ∃ n : Nat, n < 256 ∧ AM.Rel ι W0.cell? (.int .u8 (n : Int)) v := by
  obtain ⟨fuel, hf⟩ := h
  have g := good 5 (d := .int .u8) rfl (by intro h; cases h)
  obtain ⟨vs, hty, hc⟩ := open_ tokR closed_tab fuel (.int .u8) 5 [] g rfl (fun e he => by simp at he) _ _ _ hf
  obtain ⟨n, e, hw⟩ := ty_int hty
  subst e
  obtain ⟨h0, h1⟩ := wf8 hw
  obtain ⟨m, rfl⟩ : ∃ m : Nat, n = (m : Int) := ⟨n.toNat, by omega⟩
  exact ⟨m, by omega, arg_one g rfl hval hc⟩
end
end Go.Proofs.Ytafiechoplbieaa

