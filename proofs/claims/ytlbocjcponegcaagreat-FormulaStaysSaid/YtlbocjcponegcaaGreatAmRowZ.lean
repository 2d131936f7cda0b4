/- An item, read from a row's argument. -/
import Derived.Test.YtlbocjcponegcaaGreatAmHi
import Derived.Test.YtlbocjcponegcaaGreatAmHj
set_option linter.unusedVariables false
set_option linter.unusedSimpArgs false
set_option maxRecDepth 100000
namespace Go.AM
theorem CellsRel.drop {φ : Prot} {p a : List Val} {cs : List Value} (h : CellsRel φ (p ++ a) cs) : CellsRel φ a (cs.drop p.length) := by
  have h1 := h.1
  refine ⟨by rw [List.length_drop, h1]; simp, fun k hk => ?_⟩
  have := h.2 (p.length + k) (by simp; omega)
  rw [List.getD_eq_getElem?_getD, List.getD_eq_getElem?_getD, List.getElem?_append_right (by omega), Nat.add_sub_cancel_left] at this
  rw [List.getD_eq_getElem?_getD, List.getD_eq_getElem?_getD, List.getElem?_drop]
  exact this
theorem CellsRel.tail {φ : Prot} {p a b : List Val} {cs : List Value} (h : CellsRel φ (p ++ a) cs) (hb : CellsRel φ b (cs.drop p.length)) (hl : b.length = a.length) : CellsRel φ (p ++ b) cs := by
  refine ⟨by rw [h.1]; simp [hl], fun k hk => ?_⟩
  rcases Nat.lt_or_ge k p.length with hp | hp
  · have := h.2 k (by simp; omega)
    rw [List.getD_eq_getElem?_getD, List.getD_eq_getElem?_getD, List.getElem?_append_left hp] at this
    rw [List.getD_eq_getElem?_getD, List.getD_eq_getElem?_getD, List.getElem?_append_left hp]
    exact this
  · have := hb.2 (k - p.length) (by simp at hk; omega)
    rw [List.getD_eq_getElem?_getD, List.getD_eq_getElem?_getD, List.getElem?_drop, Nat.add_sub_cancel' hp] at this
    rw [List.getD_eq_getElem?_getD, List.getD_eq_getElem?_getD, List.getElem?_append_right hp]
    exact this
abbrev tdIt (e : TypeId) (by_ : Nat) : TD := .struct [.str, .int .i64, .struct [.int .i64, .int .i64], .bool, .int .i64, tdX e by_]
structure It.Wf (i : It) : Prop where
  name : i.name.size ≤ maxLen
  kind : I64 i.kind
  tk : I64 i.tk
  ts : I64 i.ts
  pol : I64 i.pol
  expr : i.expr.Wf
theorem open_it {φ : Prot} {T : TypeId → TD} {e : TypeId} {by_ : Nat} (hT : T e = tdX e by_) : ∀ (fuel : Nat) (vs : List Val) (cs : List Value), Ty T fuel (tdIt e by_) vs → CellsRel φ vs cs → ∃ x : It, x.Wf ∧ CellsRel φ (cIt x) cs := by
  intro fuel vs cs hty hc
  cases fuel with
  | zero => exact hty.elim
  | succ f =>
    rw [Ty, TyS] at hty
    obtain ⟨a0, r0, e0, t0, hty⟩ := tyF_cons hty
    obtain ⟨a1, r1, e1, t1, hty⟩ := tyF_cons hty
    obtain ⟨a2, r2, e2, t2, hty⟩ := tyF_cons hty
    obtain ⟨a3, r3, e3, t3, hty⟩ := tyF_cons hty
    obtain ⟨a4, r4, e4, t4, hty⟩ := tyF_cons hty
    obtain ⟨a5, r5, e5, t5, hty⟩ := tyF_cons hty
    obtain ⟨n, rfl, hn⟩ := tyS_str t0
    obtain ⟨k, rfl, hk⟩ := tyS_i64 t1
    rw [TyS] at t2
    obtain ⟨b0, q0, f0, u0, t2⟩ := tyF_cons t2
    obtain ⟨b1, q1, f1, u1, t2⟩ := tyF_cons t2
    obtain ⟨tk, rfl, htk⟩ := tyS_i64 u0
    obtain ⟨ts, rfl, hts⟩ := tyS_i64 u1
    have := tyF_nil t2
    subst this f1 f0
    obtain ⟨nd, rfl⟩ := tyS_bool t3
    obtain ⟨p, rfl, hp⟩ := tyS_i64 t4
    have := tyF_nil hty
    subst this e5 e4 e3 e2 e1 e0
    have hx : Ty T (f + 1) (tdX e by_) a5 := by rw [Ty]; exact t5
    have hc' : CellsRel φ ([.str n, .int .i64 k, .int .i64 tk, .int .i64 ts, .bool nd, .int .i64 p] ++ a5) cs := by simpa using hc
    obtain ⟨x, hxw, hxc⟩ := open_xp hT (f + 1) a5 _ hx hc'.drop
    exact ⟨⟨n, k, tk, ts, nd, p, x⟩, ⟨hn, hk, htk, hts, hp, hxw⟩, hc'.tail hxc (by have h1 := hxc.1; have h2 := hc'.drop.1; simp only at h1 h2 ⊢; omega)⟩
end Go.AM

