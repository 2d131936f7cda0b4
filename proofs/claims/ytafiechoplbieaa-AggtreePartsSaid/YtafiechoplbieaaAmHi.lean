/- An expression, read from a row's argument. -/
import Derived.Test.YtafiechoplbieaaAmHh
import Derived.Test.YtafiechoplbieaaAmHj
set_option linter.unusedVariables false
set_option linter.unusedSimpArgs false
set_option maxRecDepth 100000
namespace Go.AM
abbrev tdVal : TD := .struct [.int .i64, .struct [.bool, .arr 4 (.int .u64), .int .i64], .bool, .str, .int .i64]
structure Xp.wf1 (x : Xp) : Prop where
  kind : I64 x.kind
  op : I64 x.op
  name : x.name.size ≤ maxLen
  sect : x.sect.size ≤ maxLen
  val : x.val.wf
  scale : I64 x.scale
  pol : I64 x.pol
  len : x.args.length ≤ maxLen
inductive Xp.Wf : Xp → Prop
  | mk (x : Xp) (h : x.wf1) (ha : ∀ y, y ∈ x.args → Xp.Wf y) : Xp.Wf x
theorem Xp.Wf.one {x : Xp} (h : x.Wf) : x.wf1 := by cases h; assumption
theorem Xp.Wf.arg {x y : Xp} (h : x.Wf) (hy : y ∈ x.args) : y.Wf := by cases h with | mk _ _ ha => exact ha y hy
theorem CellsRel.last {φ : Prot} {p : List Val} {a b : Val} {cs : List Value} (h : CellsRel φ (p ++ [a]) cs) (hb : RelC φ b (cs.getD p.length undef)) : CellsRel φ (p ++ [b]) cs := by
  refine ⟨by rw [h.1]; simp, fun k hk => ?_⟩
  have hk' : k < (p ++ [a]).length := by simpa using hk
  obtain ⟨h1, h2⟩ := h.2 k hk'
  refine ⟨h1, ?_⟩
  rcases Nat.lt_or_ge k p.length with hp | hp
  · rw [List.getD_eq_getElem?_getD, List.getElem?_append_left hp] at h2 ⊢; exact h2
  · have : k = p.length := by simp at hk; omega
    subst this
    rw [List.getD_eq_getElem?_getD, List.getElem?_append_right (Nat.le_refl _)]
    simp only [Nat.sub_self, List.getElem?_cons_zero, Option.getD_some]
    exact hb
theorem ext_inv {φ : Prot} {sz n : Nat} {get : Nat → List Val} {u : Value} (h : RelC φ (.ext sz n get) u) : (n = 0 ∧ u = .slice none 0 0) ∨ ∃ (a : Addr) (c : Nat) (vals : Nat → Nat → Value), u = .slice (some a) n c ∧ n ≤ c ∧ (∀ i, i < n → (get i).length = sz) ∧
    (∀ i j, i < n → j < sz → φ (a.add (i * sz + j)) = some (vals i j)) ∧ (∀ i j, i < n → j < sz → plain (vals i j) = true) ∧ ∀ i j, i < n → j < sz → RelC φ ((get i).getD j .und) (vals i j) := by
  cases h with
  | ext _ _ _ a c vals hc hl hφ h1 hr => exact .inr ⟨a, c, vals, rfl, hc, hl, hφ, h1, hr⟩
  | extNil _ _ => exact .inl ⟨rfl, rfl⟩
end Go.AM

set_option linter.unusedVariables false
set_option linter.unusedSimpArgs false
set_option maxRecDepth 100000
namespace Go.AM
/-- A row whose elements are written otherwise. -/
theorem RelC.ext_map {φ : Prot} {sz n : Nat} {g g' : Nat → List Val} {u : Value} (h : RelC φ (.ext sz n g) u) (hl : ∀ i, i < n → (g' i).length = sz) (hm : ∀ i cs, i < n → CellsRel φ (g i) cs → CellsRel φ (g' i) cs) : RelC φ (.ext sz n g') u := by
  rcases ext_inv h with ⟨rfl, rfl⟩ | ⟨a, c, vals, rfl, hc, hl', hφ, h1, hr⟩
  · exact .extNil sz g'
  · refine .ext sz n g' a c vals hc hl hφ h1 fun i j hi hj => ?_
    have pl : CellsRel φ (g i) ((List.range sz).map (vals i)) := by
      refine ⟨by rw [hl' i hi]; simp, fun k hk => ?_⟩
      rw [hl' i hi] at hk
      rw [List.getD_eq_getElem?_getD, List.getElem?_map, List.getElem?_range hk]
      exact ⟨h1 i k hi hk, hr i k hi hk⟩
    have := ((hm i _ hi pl).2 j (by rw [hl i hi]; exact hj)).2
    have e2 : ((List.range sz).map (vals i)).getD j undef = vals i j := by rw [List.getD_eq_getElem?_getD, List.getElem?_map, List.getElem?_range hj]; rfl
    rw [e2] at this; exact this
/-- A row, by its elements. -/
theorem RelC.toL {φ : Prot} {α : Type} {enc : α → List Val} {sz n : Nat} {g : Nat → List Val} {l : List α} {u : Value} (hE : ExtL enc n g l) (hs : ∀ a, (enc a).length = sz) (h : RelC φ (.ext sz n g) u) : RelC φ (eL sz enc l) u := by
  obtain ⟨rfl, hE⟩ := hE
  refine h.ext_map (fun i hi => ?_) fun i cs hi hc => ?_
  · rw [getL_at (List.getElem?_eq_getElem hi)]; exact hs _
  · rw [getL_at (List.getElem?_eq_getElem hi), ← hE i hi]; exact hc
structure Rd.wf (r : Rd) : Prop where
  names : r.names.length ≤ maxLen
  cols : r.cols.length ≤ maxLen
  tabs : r.tabs.length ≤ maxLen
  sums : ∀ c, c ∈ r.cols → I64 c.2.1.rows ∧ I64 c.2.1.filled
section
variable {sl : TypeId → List Val → Prop} {vs : List Val}
end
end Go.AM

