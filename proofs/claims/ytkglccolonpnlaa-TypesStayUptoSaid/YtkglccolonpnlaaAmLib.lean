/- More small laws. -/
import Derived.Test.YtkglccolonpnlaaAmHg
set_option linter.unusedVariables false
set_option linter.unusedSimpArgs false
set_option maxRecDepth 100000
namespace Go.AM
def cN (a : N) : List Val := [.int .u64 (l0 a), .int .u64 (l1 a), .int .u64 (l2 a), .int .u64 (l3 a)]
theorem decT {p : Prop} [Decidable p] (h : p) : decide p = true := decide_eq_true h
theorem decF {p : Prop} [Decidable p] (h : ¬ p) : decide p = false := decide_eq_false h
end Go.AM
namespace Go.AM
/-! ### what is known of functions, for the evaluator -/
abbrev KnownS := List (FuncId × (List Val → Option Val))
def known : KnownS → FuncId → List Val → Option (Val × List Blk)
  | [], _, _ => none
  | (g, s) :: l, f, xs => match g == f with
    | true => match s xs with
      | some v => some (v, [])
      | none => known l f xs
    | false => known l f xs
def KnownSOk (P : Program) : KnownS → Prop
  | [] => True
  | (f, s) :: l => (∀ xs v, s xs = some v → Ret P f xs [] v []) ∧ KnownSOk P l
theorem known_ok {P : Program} : ∀ {l : KnownS}, KnownSOk P l → ∀ f xs v l', known l f xs = some (v, l') → Ret P f xs [] v l'
  | [], _, _, _, _, _, h => by cases h
  | (g, s) :: l, hk, f, xs, v, l', h => by
    unfold known at h
    split at h
    · rename_i e
      rw [beq_iff_eq] at e; subst e
      split at h
      · rename_i hs
        injection h with h; injection h with h1 h2; subst h1; subst h2
        exact hk.1 _ _ hs
      · exact known_ok hk.2 _ _ _ _ h
    · exact known_ok hk.2 _ _ _ _ h
end Go.AM

