/- The row's reading of arguments: values, summaries. -/
import Derived.Test.YtkglccolonpnlaaAmRow4
import Derived.Test.YtkglccolonpnlaaAmGV
set_option linter.unusedVariables false
set_option linter.unusedSimpArgs false
set_option maxRecDepth 100000
namespace Go.AM
open Go.RowKit
section
variable {sl : TypeId → List Val → Prop} {vs : List Val}
theorem tyF_cons {d : TD} {ds : List TD} (h : TyF sl (d :: ds) vs) : ∃ a b, vs = a ++ b ∧ TyS sl d a ∧ TyF sl ds b := by
  simp only [TyF] at h
  exact ⟨_, _, (List.take_append_drop d.size vs).symm, h.2.1, h.2.2⟩
theorem tyF_nil (h : TyF sl [] vs) : vs = [] := by simpa only [TyF] using h
theorem tyS_bool (h : TyS sl .bool vs) : ∃ b, vs = [.bool b] := by simpa only [TyS] using h
theorem tyS_i64 (h : TyS sl (.int .i64) vs) : ∃ n, vs = [.int .i64 n] ∧ I64 n := by
  simp only [TyS] at h
  obtain ⟨n, e, w⟩ := h
  exact ⟨n, e, wfi64 w⟩
theorem tyS_str (h : TyS sl .str vs) : ∃ s, vs = [.str s] ∧ s.size ≤ maxLen := by simpa only [TyS] using h
theorem tyS_nat (h : TyS sl (.arr 4 (.int .u64)) vs) : ∃ n : N, vs = cN n := by
  simp only [TyS, TD.size, Nat.mul_one] at h
  obtain ⟨hl, h⟩ := h
  obtain ⟨a, e0, w0⟩ := h 0 (by omega)
  obtain ⟨b, e1, w1⟩ := h 1 (by omega)
  obtain ⟨c, e2, w2⟩ := h 2 (by omega)
  obtain ⟨d, e3, w3⟩ := h 3 (by omega)
  match vs, hl with
  | [v0, v1, v2, v3], _ =>
    simp at e0 e1 e2 e3
    subst e0; subst e1; subst e2; subst e3
    refine ⟨ofL a b c d, ?_⟩
    have := ofL_l (wf64 w0) (wf64 w1) (wf64 w2) (wf64 w3)
    unfold cN
    rw [this.1, this.2.1, this.2.2.1, this.2.2.2]
theorem tyS_wide (h : TyS sl (.arr 5 (.int .u64)) vs) : ∃ w : Wd, vs = cWd w := by
  simp only [TyS, TD.size, Nat.mul_one] at h
  obtain ⟨hl, h⟩ := h
  obtain ⟨a, e0, w0⟩ := h 0 (by omega)
  obtain ⟨b, e1, w1⟩ := h 1 (by omega)
  obtain ⟨c, e2, w2⟩ := h 2 (by omega)
  obtain ⟨d, e3, w3⟩ := h 3 (by omega)
  obtain ⟨e, e4, w4⟩ := h 4 (by omega)
  match vs, hl with
  | [v0, v1, v2, v3, v4], _ =>
    simp at e0 e1 e2 e3 e4
    subst e0; subst e1; subst e2; subst e3; subst e4
    refine ⟨ofW a b c d e, ?_⟩
    have := ofW_m (wf64 w0) (wf64 w1) (wf64 w2) (wf64 w3) (wf64 w4)
    unfold cWd
    rw [this.1, this.2.1, this.2.2.1, this.2.2.2.1, this.2.2.2.2]
theorem tyS_dec (h : TyS sl (.struct [.bool, .arr 4 (.int .u64), .int .i64]) vs) : ∃ d : D, I64 d.scale ∧ vs = cD d := by
  simp only [TyS] at h
  obtain ⟨a0, r0, e0, t0, h⟩ := tyF_cons h
  obtain ⟨a1, r1, e1, t1, h⟩ := tyF_cons h
  obtain ⟨a2, r2, e2, t2, h⟩ := tyF_cons h
  obtain ⟨b, rfl⟩ := tyS_bool t0
  obtain ⟨n, rfl⟩ := tyS_nat t1
  obtain ⟨s, rfl, hs⟩ := tyS_i64 t2
  have := tyF_nil h
  subst this e2 e1 e0
  exact ⟨⟨b, n, s⟩, hs, rfl⟩
structure Vl.wf (v : Vl) : Prop where
  kind : I64 v.kind
  scale : I64 v.num.scale
  text : v.text.size ≤ maxLen
  err : I64 v.err
theorem tyS_val (h : TyS sl (.struct [.int .i64, .struct [.bool, .arr 4 (.int .u64), .int .i64], .bool, .str, .int .i64]) vs) : ∃ v : Vl, v.wf ∧ vs = cV v := by
  rw [TyS] at h
  obtain ⟨a0, r0, e0, t0, h⟩ := tyF_cons h
  obtain ⟨a1, r1, e1, t1, h⟩ := tyF_cons h
  obtain ⟨a2, r2, e2, t2, h⟩ := tyF_cons h
  obtain ⟨a3, r3, e3, t3, h⟩ := tyF_cons h
  obtain ⟨a4, r4, e4, t4, h⟩ := tyF_cons h
  obtain ⟨k, rfl, hk⟩ := tyS_i64 t0
  obtain ⟨d, hd, rfl⟩ := tyS_dec t1
  obtain ⟨f, rfl⟩ := tyS_bool t2
  obtain ⟨s, rfl, hs⟩ := tyS_str t3
  obtain ⟨e, rfl, he⟩ := tyS_i64 t4
  have := tyF_nil h
  subst this e4 e3 e2 e1 e0
  exact ⟨⟨k, d, f, s, e⟩, ⟨hk, hd, hs, he⟩, rfl⟩
structure Sm.wf (s : Sm) : Prop where
  rows : I64 s.rows
  filled : I64 s.filled
  blank : I64 s.blank
  bad : I64 s.bad
  err : I64 s.err
  min : I64 s.min.scale
  max : I64 s.max.scale
theorem tyS_sum (h : TyS sl (.struct [.int .i64, .int .i64, .int .i64, .int .i64, .int .i64, .arr 5 (.int .u64), .bool, .struct [.bool, .arr 4 (.int .u64), .int .i64], .struct [.bool, .arr 4 (.int .u64), .int .i64]]) vs) : ∃ s : Sm, s.wf ∧ vs = cS s := by
  rw [TyS] at h
  obtain ⟨a0, r0, e0, t0, h⟩ := tyF_cons h
  obtain ⟨a1, r1, e1, t1, h⟩ := tyF_cons h
  obtain ⟨a2, r2, e2, t2, h⟩ := tyF_cons h
  obtain ⟨a3, r3, e3, t3, h⟩ := tyF_cons h
  obtain ⟨a4, r4, e4, t4, h⟩ := tyF_cons h
  obtain ⟨a5, r5, e5, t5, h⟩ := tyF_cons h
  obtain ⟨a6, r6, e6, t6, h⟩ := tyF_cons h
  obtain ⟨a7, r7, e7, t7, h⟩ := tyF_cons h
  obtain ⟨a8, r8, e8, t8, h⟩ := tyF_cons h
  obtain ⟨k0, rfl, hk0⟩ := tyS_i64 t0
  obtain ⟨k1, rfl, hk1⟩ := tyS_i64 t1
  obtain ⟨k2, rfl, hk2⟩ := tyS_i64 t2
  obtain ⟨k3, rfl, hk3⟩ := tyS_i64 t3
  obtain ⟨k4, rfl, hk4⟩ := tyS_i64 t4
  obtain ⟨w, rfl⟩ := tyS_wide t5
  obtain ⟨b, rfl⟩ := tyS_bool t6
  obtain ⟨d, hd, rfl⟩ := tyS_dec t7
  obtain ⟨d', hd', rfl⟩ := tyS_dec t8
  have := tyF_nil h
  subst this e8 e7 e6 e5 e4 e3 e2 e1 e0
  exact ⟨⟨k0, k1, k2, k3, k4, w, b, d, d'⟩, ⟨hk0, hk1, hk2, hk3, hk4, hd, hd'⟩, rfl⟩
end
end Go.AM
