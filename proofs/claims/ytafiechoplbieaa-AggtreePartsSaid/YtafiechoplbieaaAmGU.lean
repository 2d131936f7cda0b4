/- Decimal numbers: what they are as values, what is said of them. -/
import Derived.Test.YtafiechoplbieaaAmGL
set_option linter.unusedVariables false
set_option linter.unusedSimpArgs false
set_option maxRecDepth 100000
namespace Go.AM
structure D where
  neg : Bool
  n : N
  scale : Int
  deriving DecidableEq
def D0 : D := ⟨false, N0, 0⟩
def cD (d : D) : List Val := [.bool d.neg, .int .u64 (l0 d.n), .int .u64 (l1 d.n), .int .u64 (l2 d.n), .int .u64 (l3 d.n), .int .i64 d.scale]
def eD (d : D) : Val := .agg (cD d)
theorem D.eq {a b : D} (h1 : a.neg = b.neg) (h2 : a.n = b.n) (h3 : a.scale = b.scale) : a = b := by
  cases a; cases b; simp only at h1 h2 h3; subst h1; subst h2; subst h3; rfl
theorem eqD_and (a b : D) (r : Bool) : ((a.neg == b.neg) && (l0 a.n == l0 b.n && (l1 a.n == l1 b.n && (l2 a.n == l2 b.n && (l3 a.n == l3 b.n && (a.scale == b.scale && r)))))) = (decide (a = b) && r) := by
  rw [eqN_and, ← Bool.and_assoc, ← Bool.and_assoc]
  congr 1
  rw [Bool.eq_iff_iff]
  simp only [Bool.and_eq_true, beq_iff_eq, decide_eq_true_eq]
  constructor
  · rintro ⟨⟨h1, h2⟩, h3⟩; exact D.eq h1 h2 h3
  · rintro rfl; exact ⟨⟨rfl, rfl⟩, rfl⟩
theorem eqD_ (a b : D) : ((a.neg == b.neg) && (l0 a.n == l0 b.n && (l1 a.n == l1 b.n && (l2 a.n == l2 b.n && (l3 a.n == l3 b.n && (a.scale == b.scale && true)))))) = decide (a = b) := by
  rw [eqD_and, Bool.and_true]
/-- Check: 20 where a number may not be -/
def D.ok (d : D) : Prop := 0 ≤ d.scale ∧ d.scale ≤ 18 ∧ ¬ (d.neg = true ∧ d.n = N0)
instance (d : D) : Decidable d.ok := inferInstanceAs (Decidable (_ ∧ _))
def check (d : D) : Int := if d.ok then 0 else 20
theorem check_ok {d : D} (h : d.ok) : check d = 0 := if_pos h
theorem check_bad {d : D} (h : ¬ d.ok) : check d = 20 := if_neg h
/-- with its sign -/
def D.sv (d : D) : Int := if d.neg then - d.n.v else d.n.v
/-- ten to the p -/
def tenP (p : Int) : Int := 10 ^ p.toNat
theorem tenP_pos (p : Int) : 0 < tenP p := Int.pow_pos (by decide)
theorem tenP_add {p q : Int} (hp : 0 ≤ p) (hq : 0 ≤ q) : tenP (p + q) = tenP p * tenP q := by
  unfold tenP
  rw [show (p + q).toNat = p.toNat + q.toNat by omega, Int.pow_add]
theorem tenP_lt {p : Int} (h : p ≤ 77) : tenP p < B4 := (ten_lt (i := p.toNat) (by omega)).1
/-- so many of the eighteenth digit behind the point -/
def D.val (d : D) : Int := d.sv * tenP (18 - d.scale)
/-- how two integers stand -/
def cmpZ (a b : Int) : Int := if a < b then -1 else if b < a then 1 else 0
def cmpD (a b : D) : Int := if a.ok ∧ b.ok then cmpZ a.val b.val else 0
/-! ### wide numbers -/
abbrev B8 : Int := 13407807929942597099574024998205846127479365820592393377723561443721764030073546976801874298166903427690031858186486050853753882811946569946433649006084096
def eW (x : Int) : Val := .agg [.int .u64 (l0 (mkN (x / B4))), .int .u64 (l1 (mkN (x / B4))), .int .u64 (l2 (mkN (x / B4))), .int .u64 (l3 (mkN (x / B4))), .int .u64 (l0 (mkN x)), .int .u64 (l1 (mkN x)), .int .u64 (l2 (mkN x)), .int .u64 (l3 (mkN x))]
def WW (x : Int) : Prop := 0 ≤ x ∧ x < B8
theorem WW_hi {x : Int} (h : WW x) : (mkN (x / B4)).v = x / B4 := mkN_v (by unfold WW at h; unfold W; unfold B8 at h; unfold B4; omega)
theorem mkN_lo (x : Int) : (mkN x).v = x % B4 := rfl
theorem WW_times (a : N) {p : Int} (h0 : 0 ≤ p) (h : p ≤ 77) : WW (a.v * tenP p) := by
  have ha := a.h
  have h1 := tenP_pos p
  have h2 := tenP_lt h
  have := mul_lt (m := B4 - 1) (n := B4 - 1) ha.1 (by have := ha.2; omega) (by omega : 0 ≤ tenP p) (by omega)
  have h3 : (B4 - 1) * (B4 - 1) < B8 := by decide
  exact ⟨this.1, by omega⟩
/-- a number of a sign, a size and a scale; 7: it has no room -/
def made (neg : Bool) (x : Int) (scale : Int) : D × Int := if B4 ≤ x then (D0, 7) else (⟨neg && decide (mkN x ≠ N0), mkN x, scale⟩, 0)
/-- of a signed number -/
def madeZ (x : Int) (scale : Int) : D × Int := made (decide (x < 0)) (if x < 0 then -x else x) scale
end Go.AM
namespace Go.AM
/-! ### slices that are read: lists of values -/
/-- a list as a slice: each element enc x, of sz cells -/
def getL {α : Type} (enc : α → List Val) (l : List α) : Nat → List Val := fun i => match l[i]? with
  | some x => enc x
  | none => []
def eL {α : Type} (sz : Nat) (enc : α → List Val) (l : List α) : Val := .ext sz l.length (getL enc l)
def I64' (n : Int) : Prop := -9223372036854775808 ≤ n ∧ n ≤ 9223372036854775807
theorem getL_at {α : Type} {enc : α → List Val} {l : List α} {i : Nat} {x : α} (h : l[i]? = some x) : getL enc l i = enc x := by unfold getL; rw [h]
end Go.AM
namespace Go.AM
def sl2D (a b : D) : Val := .ext 6 2 (fun i => (pieces 6 2 [.bool a.neg, .int .u64 (l0 a.n), .int .u64 (l1 a.n), .int .u64 (l2 a.n), .int .u64 (l3 a.n), .int .i64 a.scale, .bool b.neg, .int .u64 (l0 b.n), .int .u64 (l1 b.n), .int .u64 (l2 b.n), .int .u64 (l3 b.n), .int .i64 b.scale]).getD i [])
def check2 (a b : D) : Int := if a.ok ∧ b.ok then 0 else 20
/-- numbers held against each other at one scale -/
theorem cmp_scale {a b : D} (ha : a.ok) (hb : b.ok) {s : Int} (h1 : a.scale ≤ s) (h2 : b.scale ≤ s) (h3 : s ≤ 18) :
    cmpZ (a.n.v * tenP (s - a.scale)) (b.n.v * tenP (s - b.scale)) = cmpZ (a.n.v * tenP (18 - a.scale)) (b.n.v * tenP (18 - b.scale)) := by
  have e1 : tenP (18 - a.scale) = tenP (s - a.scale) * tenP (18 - s) := by rw [← tenP_add (by omega) (by omega)]; congr 1; omega
  have e2 : tenP (18 - b.scale) = tenP (s - b.scale) * tenP (18 - s) := by rw [← tenP_add (by omega) (by omega)]; congr 1; omega
  have hp := tenP_pos (18 - s)
  rw [e1, e2, ← Int.mul_assoc, ← Int.mul_assoc]
  generalize a.n.v * tenP (s - a.scale) = x
  generalize b.n.v * tenP (s - b.scale) = y
  unfold cmpZ
  have h4 : x * tenP (18 - s) < y * tenP (18 - s) ↔ x < y := Int.mul_lt_mul_right hp
  have h5 : y * tenP (18 - s) < x * tenP (18 - s) ↔ y < x := Int.mul_lt_mul_right hp
  simp only [h4, h5]
theorem val_pos {d : D} (h : d.neg = false) : d.val = d.n.v * tenP (18 - d.scale) := by unfold D.val D.sv; rw [h]; rfl
theorem val_neg {d : D} (h : d.neg = true) : d.val = - (d.n.v * tenP (18 - d.scale)) := by unfold D.val D.sv; rw [h]; simp [Int.neg_mul]
theorem n_pos {d : D} (h : d.n ≠ N0) : 0 < d.n.v := by
  have := d.n.h.1
  rcases Int.lt_or_eq_of_le this with h1 | h1
  · exact h1
  · exact absurd (N.eq h1.symm) h
theorem mag_nonneg (d : D) : 0 ≤ d.n.v * tenP (18 - d.scale) := Int.mul_nonneg d.n.h.1 (by have := tenP_pos (18 - d.scale); omega)
theorem mag_pos {d : D} (h : d.n ≠ N0) : 0 < d.n.v * tenP (18 - d.scale) := Int.mul_pos (n_pos h) (tenP_pos _)
end Go.AM
namespace Go.AM
theorem pick_max (a b : Int) : pickM true a b = max a b := by simp only [pickM]; omega
theorem pick_min (a b : Int) : pickM false a b = min a b := by simp only [pickM]; omega
end Go.AM
namespace Go.AM
def sg (z : Prop) [Decidable z] (s : Bool) : Int := if z then 0 else if s = true then -1 else 1
theorem cmpZ_le (x y : Int) : -1 ≤ cmpZ x y ∧ cmpZ x y ≤ 1 := by
  unfold cmpZ
  repeat' split
  all_goals omega
theorem cmp_end {za zb : Prop} [Decidable za] [Decidable zb] {sa sb : Bool} {X Y : Int} (hA0 : za → X = 0) (hA1 : ¬ za → 0 < X) (hB0 : zb → Y = 0) (hB1 : ¬ zb → 0 < Y) :
    (sg za sa ≠ sg zb sb → pickM false (max (IntKind.i64.wrap (sg za sa - sg zb sb)) (-1)) 1 = cmpZ (if sa then -X else X) (if sb then -Y else Y)) ∧
    (sg za sa = sg zb sb → sg za sa = 0 → pickM false (max (IntKind.i64.wrap (sg za sa - sg zb sb)) (-1)) 1 = cmpZ (if sa then -X else X) (if sb then -Y else Y)) ∧
    (sg za sa = sg zb sb → sg za sa ≠ 0 → IntKind.i64.wrap (sg za sa * cmpZ X Y) = cmpZ (if sa then -X else X) (if sb then -Y else Y)) := by
  have hb := cmpZ_le X Y
  unfold sg
  by_cases h1 : za <;> by_cases h2 : zb
  all_goals
    have ha := h1; have hb' := h2
    first | replace hA0 := hA0 h1 | replace hA1 := hA1 h1
    first | replace hB0 := hB0 h2 | replace hB1 := hB1 h2
    simp only [h1, h2, if_true, if_false]
    cases sa <;> cases sb
  all_goals
    simp only [Bool.false_eq_true, if_true, if_false, pick_min]
    refine ⟨fun h => ?_, fun h h' => ?_, fun h h' => ?_⟩
    all_goals
      first
        | (exfalso; omega)
        | skip
    all_goals
      rw [wi64_id (by omega) (by omega)]
      unfold cmpZ at *
      repeat' split
      all_goals
        first
          | omega
          | (repeat' split at hb) <;> omega
end Go.AM

set_option linter.unusedVariables false
set_option linter.unusedSimpArgs false
set_option maxRecDepth 100000
namespace Go.AM
def addD (a b : D) : D × Int := if a.ok ∧ b.ok then madeZ (a.sv * tenP (max a.scale b.scale - a.scale) + b.sv * tenP (max a.scale b.scale - b.scale)) (max a.scale b.scale) else (D0, 20)
def subD (a b : D) : D × Int := if a.ok ∧ b.ok then madeZ (a.sv * tenP (max a.scale b.scale - a.scale) - b.sv * tenP (max a.scale b.scale - b.scale)) (max a.scale b.scale) else (D0, 20)
end Go.AM

set_option linter.unusedVariables false
set_option linter.unusedSimpArgs false
set_option maxRecDepth 100000
namespace Go.AM
end Go.AM

set_option linter.unusedVariables false
set_option linter.unusedSimpArgs false
set_option maxRecDepth 100000
namespace Go.AM
/-- is the next one away from nought taken? -/
def upD (p : Int) (neg : Bool) (q r d : Int) : Bool :=
  if r = 0 then false else if p = 1 then decide (d ≤ 2 * r) else if p = 2 then decide (d < 2 * r) || (decide (d = 2 * r) && decide (q % 2 = 1)) else if p = 4 then true else if p = 5 then neg else false
/-- a quotient, rounded -/
def quoD (p : Int) (neg : Bool) (X d : Int) : Int := X / d + if upD p neg (X / d) (X % d) d then 1 else 0
/-- a number of the scale f at the scale s -/
def roundD (neg : Bool) (X f s p : Int) : D × Int :=
  if f ≤ s then if B4 ≤ X then (D0, 7) else made neg (X * tenP (s - f)) s
  else if tenP (f - s) ≤ X / B4 then (D0, 7) else made neg (quoD p neg X (tenP (f - s))) s
def mayD (s p : Int) : Int := if s < 0 ∨ 18 < s then 21 else if p < 1 ∨ 5 < p then 22 else 0
def mulToD (a b : D) (s p : Int) : D × Int := if a.ok ∧ b.ok then if mayD s p = 0 then roundD (a.neg != b.neg) (a.n.v * b.n.v) (a.scale + b.scale) s p else (D0, mayD s p) else (D0, 20)
def rescaleD (a : D) (s p : Int) : D × Int := if a.ok then if mayD s p = 0 then roundD a.neg a.n.v a.scale s p else (D0, mayD s p) else (D0, 20)
end Go.AM

set_option linter.unusedVariables false
set_option linter.unusedSimpArgs false
set_option maxRecDepth 100000
namespace Go.AM
theorem cmpZ_neg (x y : Int) : cmpZ (-x) (-y) = cmpZ y x := by unfold cmpZ; repeat' split
                                                               all_goals omega
/-! ### rounding -/
/-! ### the least scale -/
end Go.AM

set_option linter.unusedVariables false
set_option linter.unusedSimpArgs false
set_option maxRecDepth 100000
namespace Go.AM
end Go.AM

