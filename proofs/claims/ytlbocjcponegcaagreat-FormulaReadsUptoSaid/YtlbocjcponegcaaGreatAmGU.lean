/- Decimal numbers: what they are as values, what is said of them. -/
import Derived.Test.YtlbocjcponegcaaGreatAmGL
set_option linter.unusedVariables false
set_option linter.unusedSimpArgs false
set_option maxRecDepth 100000
namespace Go.AM
structure D where
  neg : Bool
  n : N
  scale : Int
  deriving DecidableEq
def D0 : D := ⟨false, N0, 0⟩
def cD (d : D) : List Val := [.bool d.neg, .int .u64 (l0 d.n), .int .u64 (l1 d.n), .int .u64 (l2 d.n), .int .u64 (l3 d.n), .int .i64 d.scale]
theorem D.eq {a b : D} (h1 : a.neg = b.neg) (h2 : a.n = b.n) (h3 : a.scale = b.scale) : a = b := by
  cases a; cases b; simp only at h1 h2 h3; subst h1; subst h2; subst h3; rfl
/-- Check: 20 where a number may not be -/
def D.ok (d : D) : Prop := 0 ≤ d.scale ∧ d.scale ≤ 18 ∧ ¬ (d.neg = true ∧ d.n = N0)
instance (d : D) : Decidable d.ok := inferInstanceAs (Decidable (_ ∧ _))
/-- with its sign -/
def D.sv (d : D) : Int := if d.neg then - d.n.v else d.n.v
/-- ten to the p -/
def tenP (p : Int) : Int := 10 ^ p.toNat
/-- so many of the eighteenth digit behind the point -/
def D.val (d : D) : Int := d.sv * tenP (18 - d.scale)
/-- how two integers stand -/
def cmpZ (a b : Int) : Int := if a < b then -1 else if b < a then 1 else 0
def cmpD (a b : D) : Int := if a.ok ∧ b.ok then cmpZ a.val b.val else 0
/-! ### wide numbers -/
/-- a number of a sign, a size and a scale; 7: it has no room -/
def made (neg : Bool) (x : Int) (scale : Int) : D × Int := if B4 ≤ x then (D0, 7) else (⟨neg && decide (mkN x ≠ N0), mkN x, scale⟩, 0)
/-- of a signed number -/
def madeZ (x : Int) (scale : Int) : D × Int := made (decide (x < 0)) (if x < 0 then -x else x) scale
end Go.AM
namespace Go.AM
/-! ### slices that are read: lists of values -/
/-- a list as a slice: each element enc x, of sz cells -/
def getL {α : Type} (enc : α → List Val) (l : List α) : Nat → List Val := fun i => match l[i]? with
  | some x => enc x
  | none => []
def eL {α : Type} (sz : Nat) (enc : α → List Val) (l : List α) : Val := .ext sz l.length (getL enc l)
theorem getL_at {α : Type} {enc : α → List Val} {l : List α} {i : Nat} {x : α} (h : l[i]? = some x) : getL enc l i = enc x := by unfold getL; rw [h]
end Go.AM
namespace Go.AM
end Go.AM
namespace Go.AM
end Go.AM
namespace Go.AM
end Go.AM

set_option linter.unusedVariables false
set_option linter.unusedSimpArgs false
set_option maxRecDepth 100000
namespace Go.AM
def addD (a b : D) : D × Int := if a.ok ∧ b.ok then madeZ (a.sv * tenP (max a.scale b.scale - a.scale) + b.sv * tenP (max a.scale b.scale - b.scale)) (max a.scale b.scale) else (D0, 20)
def subD (a b : D) : D × Int := if a.ok ∧ b.ok then madeZ (a.sv * tenP (max a.scale b.scale - a.scale) - b.sv * tenP (max a.scale b.scale - b.scale)) (max a.scale b.scale) else (D0, 20)
end Go.AM

set_option linter.unusedVariables false
set_option linter.unusedSimpArgs false
set_option maxRecDepth 100000
namespace Go.AM
end Go.AM

set_option linter.unusedVariables false
set_option linter.unusedSimpArgs false
set_option maxRecDepth 100000
namespace Go.AM
/-- is the next one away from nought taken? -/
def upD (p : Int) (neg : Bool) (q r d : Int) : Bool :=
  if r = 0 then false else if p = 1 then decide (d ≤ 2 * r) else if p = 2 then decide (d < 2 * r) || (decide (d = 2 * r) && decide (q % 2 = 1)) else if p = 4 then true else if p = 5 then neg else false
/-- a quotient, rounded -/
def quoD (p : Int) (neg : Bool) (X d : Int) : Int := X / d + if upD p neg (X / d) (X % d) d then 1 else 0
/-- a number of the scale f at the scale s -/
def roundD (neg : Bool) (X f s p : Int) : D × Int :=
  if f ≤ s then if B4 ≤ X then (D0, 7) else made neg (X * tenP (s - f)) s
  else if tenP (f - s) ≤ X / B4 then (D0, 7) else made neg (quoD p neg X (tenP (f - s))) s
def mayD (s p : Int) : Int := if s < 0 ∨ 18 < s then 21 else if p < 1 ∨ 5 < p then 22 else 0
def mulToD (a b : D) (s p : Int) : D × Int := if a.ok ∧ b.ok then if mayD s p = 0 then roundD (a.neg != b.neg) (a.n.v * b.n.v) (a.scale + b.scale) s p else (D0, mayD s p) else (D0, 20)
def rescaleD (a : D) (s p : Int) : D × Int := if a.ok then if mayD s p = 0 then roundD a.neg a.n.v a.scale s p else (D0, mayD s p) else (D0, 20)
end Go.AM

set_option linter.unusedVariables false
set_option linter.unusedSimpArgs false
set_option maxRecDepth 100000
namespace Go.AM
/-! ### rounding -/
/-! ### the least scale -/
end Go.AM

set_option linter.unusedVariables false
set_option linter.unusedSimpArgs false
set_option maxRecDepth 100000
namespace Go.AM
end Go.AM

