/- Decimal numbers: what they are as values, what is said of them. -/
import Derived.Test.YtdpnhedbggnhiaaGreatAmGL
set_option linter.unusedVariables false
set_option linter.unusedSimpArgs false
set_option maxRecDepth 100000
namespace Go.AM
structure D where
  neg : Bool
  n : N
  scale : Int
  deriving DecidableEq
def D0 : D := ⟨false, N0, 0⟩
def cD (d : D) : List Val := [.bool d.neg, .int .u64 (l0 d.n), .int .u64 (l1 d.n), .int .u64 (l2 d.n), .int .u64 (l3 d.n), .int .i64 d.scale]
def eD (d : D) : Val := .agg (cD d)
theorem D.eq {a b : D} (h1 : a.neg = b.neg) (h2 : a.n = b.n) (h3 : a.scale = b.scale) : a = b := by
  cases a; cases b; simp only at h1 h2 h3; subst h1; subst h2; subst h3; rfl
theorem eqD_and (a b : D) (r : Bool) : ((a.neg == b.neg) && (l0 a.n == l0 b.n && (l1 a.n == l1 b.n && (l2 a.n == l2 b.n && (l3 a.n == l3 b.n && (a.scale == b.scale && r)))))) = (decide (a = b) && r) := by
  rw [eqN_and, ← Bool.and_assoc, ← Bool.and_assoc]
  congr 1
  rw [Bool.eq_iff_iff]
  simp only [Bool.and_eq_true, beq_iff_eq, decide_eq_true_eq]
  constructor
  · rintro ⟨⟨h1, h2⟩, h3⟩; exact D.eq h1 h2 h3
  · rintro rfl; exact ⟨⟨rfl, rfl⟩, rfl⟩
/-- Check: 20 where a number may not be -/
def D.ok (d : D) : Prop := 0 ≤ d.scale ∧ d.scale ≤ 18 ∧ ¬ (d.neg = true ∧ d.n = N0)
instance (d : D) : Decidable d.ok := inferInstanceAs (Decidable (_ ∧ _))
def check (d : D) : Int := if d.ok then 0 else 20
theorem check_ok {d : D} (h : d.ok) : check d = 0 := if_pos h
theorem check_bad {d : D} (h : ¬ d.ok) : check d = 20 := if_neg h
/-- with its sign -/
def D.sv (d : D) : Int := if d.neg then - d.n.v else d.n.v
/-- ten to the p -/
def tenP (p : Int) : Int := 10 ^ p.toNat
theorem tenP_pos (p : Int) : 0 < tenP p := Int.pow_pos (by decide)
theorem tenP_lt {p : Int} (h : p ≤ 77) : tenP p < B4 := (ten_lt (i := p.toNat) (by omega)).1
/-- so many of the eighteenth digit behind the point -/
def D.val (d : D) : Int := d.sv * tenP (18 - d.scale)
/-- how two integers stand -/
def cmpZ (a b : Int) : Int := if a < b then -1 else if b < a then 1 else 0
def cmpD (a b : D) : Int := if a.ok ∧ b.ok then cmpZ a.val b.val else 0
/-! ### wide numbers -/
abbrev B8 : Int := 13407807929942597099574024998205846127479365820592393377723561443721764030073546976801874298166903427690031858186486050853753882811946569946433649006084096
def eW (x : Int) : Val := .agg [.int .u64 (l0 (mkN (x / B4))), .int .u64 (l1 (mkN (x / B4))), .int .u64 (l2 (mkN (x / B4))), .int .u64 (l3 (mkN (x / B4))), .int .u64 (l0 (mkN x)), .int .u64 (l1 (mkN x)), .int .u64 (l2 (mkN x)), .int .u64 (l3 (mkN x))]
def WW (x : Int) : Prop := 0 ≤ x ∧ x < B8
theorem WW_hi {x : Int} (h : WW x) : (mkN (x / B4)).v = x / B4 := mkN_v (by unfold WW at h; unfold W; unfold B8 at h; unfold B4; omega)
theorem mkN_lo (x : Int) : (mkN x).v = x % B4 := rfl
theorem WW_small {x : Int} (h : 0 ≤ x) (h1 : x < B4) : mkN (x / B4) = N0 := by
  rw [Int.ediv_eq_zero_of_lt h h1]; exact mkN_0
theorem WW_zero_hi {x : Int} (h : WW x) : mkN (x / B4) = N0 ↔ x < B4 := by
  constructor
  · intro e
    have := congrArg N.v e
    rw [WW_hi h] at this
    have : x / B4 = 0 := this
    unfold WW at h; unfold B4 at *; omega
  · intro hl; exact WW_small h.1 hl
theorem WW_times (a : N) {p : Int} (h0 : 0 ≤ p) (h : p ≤ 77) : WW (a.v * tenP p) := by
  have ha := a.h
  have h1 := tenP_pos p
  have h2 := tenP_lt h
  have := mul_lt (m := B4 - 1) (n := B4 - 1) ha.1 (by have := ha.2; omega) (by omega : 0 ≤ tenP p) (by omega)
  have h3 : (B4 - 1) * (B4 - 1) < B8 := by decide
  exact ⟨this.1, by omega⟩
/-- a number of a sign, a size and a scale; 7: it has no room -/
def made (neg : Bool) (x : Int) (scale : Int) : D × Int := if B4 ≤ x then (D0, 7) else (⟨neg && decide (mkN x ≠ N0), mkN x, scale⟩, 0)
/-- of a signed number -/
def madeZ (x : Int) (scale : Int) : D × Int := made (decide (x < 0)) (if x < 0 then -x else x) scale
end Go.AM
namespace Go.AM
theorem eW_low {u : Int} (h0 : 0 ≤ u) (h1 : u < B4) : eW u = .agg [.int .u64 0, .int .u64 0, .int .u64 0, .int .u64 0, .int .u64 (l0 (mkN u)), .int .u64 (l1 (mkN u)), .int .u64 (l2 (mkN u)), .int .u64 (l3 (mkN u))] := by
  unfold eW
  rw [WW_small h0 h1]
  rfl
theorem WW_low {u : Int} (h0 : 0 ≤ u) (h1 : u < B4) : WW u := ⟨h0, by unfold B8; unfold B4 at h1; omega⟩
/-! ### slices that are read: lists of values -/
end Go.AM
namespace Go.AM
end Go.AM
namespace Go.AM
end Go.AM
namespace Go.AM
end Go.AM

set_option linter.unusedVariables false
set_option linter.unusedSimpArgs false
set_option maxRecDepth 100000
namespace Go.AM
theorem eW_is {x : Int} {h l : N} (eh : h = mkN (x / B4)) (el : l = mkN x) : Val.agg [.int .u64 (l0 h), .int .u64 (l1 h), .int .u64 (l2 h), .int .u64 (l3 h), .int .u64 (l0 l), .int .u64 (l1 l), .int .u64 (l2 l), .int .u64 (l3 l)] = eW x := by
  subst eh; subst el; rfl
theorem mkN_eq {x y : Int} (h : (x - y) % B4 = 0) : mkN x = mkN y := N.eq (by
  show x % B4 = y % B4
  exact Int.emod_eq_emod_iff_emod_sub_eq_zero.2 h)
/-- the two halves of a sum -/
theorem plus_low (x y : Int) : mkN ((mkN x).v + (mkN y).v) = mkN (x + y) := mkN_eq (by simp only [mkN]; unfold B4; omega)
theorem plus_hi0 {x y : Int} (hx : WW x) (hy : WW y) (h : ¬ B4 ≤ (mkN x).v + (mkN y).v) : mkN ((mkN (x / B4)).v + (mkN (y / B4)).v) = mkN ((x + y) / B4) := mkN_eq (by
  rw [WW_hi hx, WW_hi hy]
  simp only [mkN] at h
  unfold B4 at *; omega)
theorem plus_hi1 {x y : Int} (hx : WW x) (hy : WW y) (h : B4 ≤ (mkN x).v + (mkN y).v) : mkN ((mkN ((mkN (x / B4)).v + (mkN (y / B4)).v)).v + (mkN 1).v) = mkN ((x + y) / B4) := by
  rw [plus_low, WW_hi hx, WW_hi hy]
  exact mkN_eq (by
    simp only [mkN] at h
    unfold B4 at *; omega)
def negOf (a : D) : D × Int := if a.ok then madeZ (- a.sv) a.scale else (D0, 20)
/-- a sign and a size -/
def sgd (neg : Bool) (x : Int) : Int := if neg then -x else x
theorem made_sg {neg : Bool} {x : Int} (s : Int) (hx : 0 ≤ x) : made neg x s = madeZ (sgd neg x) s := by
  unfold madeZ sgd
  cases neg
  · rw [decF (by simp; omega), if_neg (by simp; omega)]; simp
  · simp only [if_true]
    by_cases h0 : x = 0
    · subst h0; rfl
    · rw [decT (by omega), if_pos (by omega), Int.neg_neg]
theorem sg_not (neg : Bool) (x : Int) : sgd (!neg) x = - sgd neg x := by unfold sgd; cases neg <;> simp
end Go.AM

set_option linter.unusedVariables false
set_option linter.unusedSimpArgs false
set_option maxRecDepth 100000
namespace Go.AM
end Go.AM

set_option linter.unusedVariables false
set_option linter.unusedSimpArgs false
set_option maxRecDepth 100000
namespace Go.AM
theorem N0_iff (a : N) : a = N0 ↔ a.v = 0 := ⟨fun h => by rw [h]; rfl, fun h => N.eq h⟩
/-- is the next one away from nought taken? -/
def upD (p : Int) (neg : Bool) (q r d : Int) : Bool :=
  if r = 0 then false else if p = 1 then decide (d ≤ 2 * r) else if p = 2 then decide (d < 2 * r) || (decide (d = 2 * r) && decide (q % 2 = 1)) else if p = 4 then true else if p = 5 then neg else false
/-- a quotient, rounded -/
def quoD (p : Int) (neg : Bool) (X d : Int) : Int := X / d + if upD p neg (X / d) (X % d) d then 1 else 0
/-- a number of the scale f at the scale s -/
def roundD (neg : Bool) (X f s p : Int) : D × Int :=
  if f ≤ s then if B4 ≤ X then (D0, 7) else made neg (X * tenP (s - f)) s
  else if tenP (f - s) ≤ X / B4 then (D0, 7) else made neg (quoD p neg X (tenP (f - s))) s
def mayD (s p : Int) : Int := if s < 0 ∨ 18 < s then 21 else if p < 1 ∨ 5 < p then 22 else 0
def rescaleD (a : D) (s p : Int) : D × Int := if a.ok then if mayD s p = 0 then roundD a.neg a.n.v a.scale s p else (D0, mayD s p) else (D0, 20)
theorem quoD_le {p X d : Int} {neg : Bool} (hX : 0 ≤ X) (hd : 0 < d) (h : X / B4 < d) (hx : X < B8) : 0 ≤ X / d ∧ X / d < B4 ∧ 0 ≤ quoD p neg X d ∧ quoD p neg X d ≤ B4 := by
  have h0 : 0 ≤ X / d := Int.ediv_nonneg hX (by omega)
  have h1 : X / d < B4 := by
    rw [Int.ediv_lt_iff_lt_mul hd]
    have : X < (X / B4 + 1) * B4 := by have := Int.mul_ediv_add_emod X B4; have := Int.emod_lt_of_pos X (show 0 < B4 by decide); rw [Int.add_mul, Int.one_mul, Int.mul_comm (X / B4)]; omega
    have h2 : (X / B4 + 1) * B4 ≤ d * B4 := Int.mul_le_mul_of_nonneg_right (by omega) (by decide)
    rw [Int.mul_comm]; omega
  refine ⟨h0, h1, ?_, ?_⟩
  · unfold quoD; split <;> omega
  · unfold quoD; split <;> omega
end Go.AM

set_option linter.unusedVariables false
set_option linter.unusedSimpArgs false
set_option maxRecDepth 100000
namespace Go.AM
/-! ### rounding -/
/-! ### the least scale -/
end Go.AM

set_option linter.unusedVariables false
set_option linter.unusedSimpArgs false
set_option maxRecDepth 100000
namespace Go.AM
end Go.AM

