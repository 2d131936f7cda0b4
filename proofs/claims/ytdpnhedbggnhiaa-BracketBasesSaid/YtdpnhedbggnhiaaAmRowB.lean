/- A bracket table, read. -/
import Derived.Test.YtdpnhedbggnhiaaAmRow5
import Derived.Test.YtdpnhedbggnhiaaAmGV
set_option linter.unusedVariables false
set_option linter.unusedSimpArgs false
set_option maxRecDepth 100000
namespace Go.AM
/-- a slice that is read -/
structure Sl (α : Type) where
  n : Nat
  g : Nat → List Val
  l : List α
theorem list_of {α : Type} {P : α → Prop} {enc : α → List Val} {g : Nat → List Val} : ∀ {n : Nat}, (∀ i, i < n → ∃ a, P a ∧ g i = enc a) → ∃ l : List α, ExtL enc n g l ∧ ∀ x ∈ l, P x
  | 0, _ => ⟨[], ⟨rfl, fun i h => absurd h (by simp)⟩, fun x h => absurd h (by simp)⟩
  | n + 1, h => by
    obtain ⟨l, h1, h2⟩ := list_of (n := n) (fun i hi => h i (by omega))
    obtain ⟨a, ha, hg⟩ := h n (by omega)
    obtain ⟨hl, hi⟩ := h1
    refine ⟨l ++ [a], ⟨by simp [hl], fun i hi' => ?_⟩, fun x hx => ?_⟩
    · rw [List.length_append, List.length_singleton] at hi'
      rcases (by omega : i < l.length ∨ i = l.length) with h | h
      · rw [List.getElem_append_left h]; exact hi i h
      · subst h
        rw [List.getElem_append_right (by omega)]
        simp only [Nat.sub_self, List.getElem_cons_zero]
        rw [hl]; exact hg
    · rcases List.mem_append.1 hx with h | h
      · exact h2 x h
      · rw [List.mem_singleton] at h; subst h; exact ha
abbrev tdDec : TD := .struct [.bool, .arr 4 (.int .u64), .int .i64]
abbrev tdStp : TD := .struct [tdDec, tdDec, tdDec]
section
variable {sl : TypeId → List Val → Prop} {vs : List Val}
structure Stp.wf (s : Stp) : Prop where
  fr : I64 s.fr.scale
  base : I64 s.base.scale
  rate : I64 s.rate.scale
theorem tyS_stp (h : TyS sl tdStp vs) : ∃ s : Stp, s.wf ∧ vs = cSt s := by
  rw [TyS] at h
  obtain ⟨a0, r0, e0, t0, h⟩ := tyF_cons h
  obtain ⟨a1, r1, e1, t1, h⟩ := tyF_cons h
  obtain ⟨a2, r2, e2, t2, h⟩ := tyF_cons h
  obtain ⟨d0, h0, rfl⟩ := tyS_dec t0
  obtain ⟨d1, h1, rfl⟩ := tyS_dec t1
  obtain ⟨d2, h2, rfl⟩ := tyS_dec t2
  have := tyF_nil h
  subst this e2 e1 e0
  exact ⟨⟨d0, d1, d2⟩, ⟨h0, h1, h2⟩, rfl⟩
theorem tyS_slice {e : TypeId} {sz by_ : Nat} (h : TyS sl (.slice e sz by_) vs) : ∃ n get, vs = [.ext sz n get] ∧ n ≤ maxLen ∧ ∀ i, i < n → (get i).length = sz ∧ sl e (get i) := by simpa only [TyS] using h
end
/-- a table, as a slice's elements -/
structure TbS where
  name : ByteArray
  n : Nat
  g : Nat → List Val
  l : List Stp
structure TbS.ok (t : TbS) : Prop where
  ext : ExtL cSt t.n t.g t.l
  len : t.n ≤ maxLen
  wf : ∀ s ∈ t.l, s.wf
  name : t.name.size ≤ maxLen
end Go.AM
