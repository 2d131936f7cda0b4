/- More small laws. -/
import Derived.Test.YthjgnmpnagmeoaaAmHg
set_option linter.unusedVariables false
set_option linter.unusedSimpArgs false
set_option maxRecDepth 100000
namespace Go.AM
def cN (a : N) : List Val := [.int .u64 (l0 a), .int .u64 (l1 a), .int .u64 (l2 a), .int .u64 (l3 a)]
theorem decT {p : Prop} [Decidable p] (h : p) : decide p = true := decide_eq_true h
theorem decF {p : Prop} [Decidable p] (h : ¬ p) : decide p = false := decide_eq_false h
end Go.AM
namespace Go.AM
/-! ### what is known of functions, for the evaluator -/
abbrev KnownS := List (FuncId × (List Val → Option Val))
def known : KnownS → FuncId → List Val → Option (Val × List Blk)
  | [], _, _ => none
  | (g, s) :: l, f, xs => match g == f with
    | true => match s xs with
      | some v => some (v, [])
      | none => known l f xs
    | false => known l f xs
end Go.AM

