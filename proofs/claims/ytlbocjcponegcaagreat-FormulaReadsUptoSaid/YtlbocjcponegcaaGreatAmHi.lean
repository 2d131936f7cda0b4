/- An expression, read from a row's argument. -/
import Derived.Test.YtlbocjcponegcaaGreatAmHh
import Derived.Test.YtlbocjcponegcaaGreatAmHj
set_option linter.unusedVariables false
set_option linter.unusedSimpArgs false
set_option maxRecDepth 100000
namespace Go.AM
abbrev tdVal : TD := .struct [.int .i64, .struct [.bool, .arr 4 (.int .u64), .int .i64], .bool, .str, .int .i64]
abbrev tdX (e : TypeId) (by_ : Nat) : TD := .struct [.int .i64, .int .i64, .str, .str, tdVal, .int .i64, .int .i64, .slice e 17 by_]
structure Xp.wf1 (x : Xp) : Prop where
  kind : I64 x.kind
  op : I64 x.op
  name : x.name.size ≤ maxLen
  sect : x.sect.size ≤ maxLen
  val : x.val.wf
  scale : I64 x.scale
  pol : I64 x.pol
  len : x.args.length ≤ maxLen
inductive Xp.Wf : Xp → Prop
  | mk (x : Xp) (h : x.wf1) (ha : ∀ y, y ∈ x.args → Xp.Wf y) : Xp.Wf x
theorem Xp.Wf.one {x : Xp} (h : x.Wf) : x.wf1 := by cases h; assumption
theorem Xp.Wf.arg {x y : Xp} (h : x.Wf) (hy : y ∈ x.args) : y.Wf := by cases h with | mk _ _ ha => exact ha y hy
theorem pick_list {α : Type} {Q : Nat → α → Prop} : ∀ {n : Nat}, (∀ i, i < n → ∃ a, Q i a) → ∃ l : List α, l.length = n ∧ ∀ i (h : i < l.length), Q i l[i]
  | 0, _ => ⟨[], rfl, fun i h => absurd h (by simp)⟩
  | n + 1, h => by
    obtain ⟨l, h1, h2⟩ := pick_list (n := n) (fun i hi => h i (by omega))
    obtain ⟨a, ha⟩ := h n (by omega)
    refine ⟨l ++ [a], by simp [h1], fun i hi => ?_⟩
    rw [List.length_append, List.length_singleton] at hi
    rcases (by omega : i < l.length ∨ i = l.length) with k | k
    · rw [List.getElem_append_left k]; exact h2 i k
    · subst k
      rw [List.getElem_append_right (by omega)]
      simp only [Nat.sub_self, List.getElem_cons_zero]
      rw [h1]; exact ha
theorem CellsRel.last {φ : Prot} {p : List Val} {a b : Val} {cs : List Value} (h : CellsRel φ (p ++ [a]) cs) (hb : RelC φ b (cs.getD p.length undef)) : CellsRel φ (p ++ [b]) cs := by
  refine ⟨by rw [h.1]; simp, fun k hk => ?_⟩
  have hk' : k < (p ++ [a]).length := by simpa using hk
  obtain ⟨h1, h2⟩ := h.2 k hk'
  refine ⟨h1, ?_⟩
  rcases Nat.lt_or_ge k p.length with hp | hp
  · rw [List.getD_eq_getElem?_getD, List.getElem?_append_left hp] at h2 ⊢; exact h2
  · have : k = p.length := by simp at hk; omega
    subst this
    rw [List.getD_eq_getElem?_getD, List.getElem?_append_right (Nat.le_refl _)]
    simp only [Nat.sub_self, List.getElem?_cons_zero, Option.getD_some]
    exact hb
theorem cE_split (x : Xp) : cE x = [.int .i64 x.kind, .int .i64 x.op, .str x.name, .str x.sect, .int .i64 x.val.kind, .bool x.val.num.neg, .int .u64 (l0 x.val.num.n), .int .u64 (l1 x.val.num.n), .int .u64 (l2 x.val.num.n), .int .u64 (l3 x.val.num.n), .int .i64 x.val.num.scale,
    .bool x.val.flag, .str x.val.text, .int .i64 x.val.err, .int .i64 x.scale, .int .i64 x.pol] ++ [.ext 17 x.args.length (Xp.rows x.args)] := rfl
theorem ext_inv {φ : Prot} {sz n : Nat} {get : Nat → List Val} {u : Value} (h : RelC φ (.ext sz n get) u) : (n = 0 ∧ u = .slice none 0 0) ∨ ∃ (a : Addr) (c : Nat) (vals : Nat → Nat → Value), u = .slice (some a) n c ∧ n ≤ c ∧ (∀ i, i < n → (get i).length = sz) ∧
    (∀ i j, i < n → j < sz → φ (a.add (i * sz + j)) = some (vals i j)) ∧ (∀ i j, i < n → j < sz → plain (vals i j) = true) ∧ ∀ i j, i < n → j < sz → RelC φ ((get i).getD j .und) (vals i j) := by
  cases h with
  | ext _ _ _ a c vals hc hl hφ h1 hr => exact .inr ⟨a, c, vals, rfl, hc, hl, hφ, h1, hr⟩
  | extNil _ _ => exact .inl ⟨rfl, rfl⟩
end Go.AM

set_option linter.unusedVariables false
set_option linter.unusedSimpArgs false
set_option maxRecDepth 100000
namespace Go.AM
structure Rd.wf (r : Rd) : Prop where
  names : r.names.length ≤ maxLen
  cols : r.cols.length ≤ maxLen
  tabs : r.tabs.length ≤ maxLen
  sums : ∀ c, c ∈ r.cols → I64 c.2.1.rows ∧ I64 c.2.1.filled
section
variable {sl : TypeId → List Val → Prop} {vs : List Val}
end
end Go.AM

