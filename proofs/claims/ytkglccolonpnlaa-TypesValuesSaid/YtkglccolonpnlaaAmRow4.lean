/- The row's reading of arguments: one-cell arguments. -/
import Derived.Test.YtkglccolonpnlaaAmRow3
import Derived.Test.YtkglccolonpnlaaAmLib
set_option linter.unusedVariables false
set_option linter.unusedSimpArgs false
set_option maxRecDepth 100000
namespace Go.AM
open Go.RowKit
def I64 (n : Int) : Prop := -9223372036854775808 ≤ n ∧ n ≤ 9223372036854775807
def readable1 : TD → Bool
  | .bool | .int _ | .str | .slice .. => true
  | _ => false
section
variable {P : Program} {W : World} {ι : Map} {t : TypeId} {base : Nat} {u : Value} {r : Reach} {x : Val}
theorem arg_one {d : TD} (hg : Good P d t) (hd : readable1 d = true) (hval : Value.okWide P W r base t u) (hc : CellsRel W.cell? [x] u.cells.toList) : Rel ι W.cell? x u := by
  have hu : u.cells = #[u] := by
    cases d <;> simp only [readable1] at hd <;> try (cases hd; done)
    case bool =>
      simp only [Good] at hg
      simp only [Value.okWide, hg.1, Cell.okWide, Cell.ok] at hval
      cases u <;> simp at hval <;> rfl
    case int k =>
      simp only [Good] at hg
      simp only [Value.okWide, hg.1, Cell.okWide, Cell.ok] at hval
      cases u <;> simp at hval <;> rfl
    case str =>
      simp only [Good] at hg
      simp only [Value.okWide, hg.1, Cell.okWide, Cell.ok] at hval
      cases u <;> simp at hval <;> rfl
    case slice =>
      simp only [Good] at hg
      simp only [Value.okWide, hg.1, Cell.okWide, Cell.ok] at hval
      cases u <;> simp at hval <;> rfl
  rw [hu] at hc
  have := hc.2 0 (by simp)
  exact .c this.2
end
theorem wf64 {n : Int} (h : (Lit.int .u64 n).wf = true) : U n := by
  simp only [Lit.wf, Bool.and_eq_true, decide_eq_true_eq] at h
  have h1 : IntKind.u64.min = 0 := rfl
  have h2 : IntKind.u64.max = 18446744073709551615 := rfl
  rw [h1, h2] at h
  unfold U; omega
theorem wfi64 {n : Int} (h : (Lit.int .i64 n).wf = true) : I64 n := by
  simp only [Lit.wf, Bool.and_eq_true, decide_eq_true_eq] at h
  have h1 : IntKind.i64.min = -9223372036854775808 := rfl
  have h2 : IntKind.i64.max = 9223372036854775807 := rfl
  rw [h1, h2] at h
  exact h
theorem wf8 {n : Int} (h : (Lit.int .u8 n).wf = true) : 0 ≤ n ∧ n < 256 := by
  simp only [Lit.wf, Bool.and_eq_true, decide_eq_true_eq] at h
  have h1 : IntKind.u8.min = 0 := rfl
  have h2 : IntKind.u8.max = 255 := rfl
  rw [h1, h2] at h
  omega
theorem ty_nat {T : TypeId → TD} {f : Nat} {vs : List Val} (h : Ty T f (.arr 4 (.int .u64)) vs) : ∃ n : N, vs = cN n := by
  cases f with
  | zero => exact h.elim
  | succ f =>
    simp only [Ty, TyS, TD.size, Nat.mul_one] at h
    obtain ⟨hl, h⟩ := h
    obtain ⟨a, e0, w0⟩ := h 0 (by omega)
    obtain ⟨b, e1, w1⟩ := h 1 (by omega)
    obtain ⟨c, e2, w2⟩ := h 2 (by omega)
    obtain ⟨d, e3, w3⟩ := h 3 (by omega)
    match vs, hl with
    | [v0, v1, v2, v3], _ =>
      simp at e0 e1 e2 e3
      subst e0; subst e1; subst e2; subst e3
      refine ⟨ofL a b c d, ?_⟩
      have := ofL_l (wf64 w0) (wf64 w1) (wf64 w2) (wf64 w3)
      unfold cN
      rw [this.1, this.2.1, this.2.2.1, this.2.2.2]
theorem ty_int {T : TypeId → TD} {f : Nat} {k : IntKind} {vs : List Val} (h : Ty T f (.int k) vs) : ∃ n, vs = [.int k n] ∧ (Lit.int k n).wf = true := by
  cases f with
  | zero => exact h.elim
  | succ f => simpa only [Ty, TyS] using h
theorem ty_str {T : TypeId → TD} {f : Nat} {vs : List Val} (h : Ty T f .str vs) : ∃ s, vs = [.str s] ∧ s.size ≤ maxLen := by
  cases f with
  | zero => exact h.elim
  | succ f => simpa only [Ty, TyS] using h
end Go.AM
