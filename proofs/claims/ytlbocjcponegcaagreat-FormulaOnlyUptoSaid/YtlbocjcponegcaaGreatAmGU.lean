/- Decimal numbers: what they are as values, what is said of them. -/
import Derived.Test.YtlbocjcponegcaaGreatAmGL
set_option linter.unusedVariables false
set_option linter.unusedSimpArgs false
set_option maxRecDepth 100000
namespace Go.AM
structure D where
  neg : Bool
  n : N
  scale : Int
  deriving DecidableEq
def D0 : D := ⟨false, N0, 0⟩
def cD (d : D) : List Val := [.bool d.neg, .int .u64 (l0 d.n), .int .u64 (l1 d.n), .int .u64 (l2 d.n), .int .u64 (l3 d.n), .int .i64 d.scale]
def eD (d : D) : Val := .agg (cD d)
theorem D.eq {a b : D} (h1 : a.neg = b.neg) (h2 : a.n = b.n) (h3 : a.scale = b.scale) : a = b := by
  cases a; cases b; simp only at h1 h2 h3; subst h1; subst h2; subst h3; rfl
theorem eqD_and (a b : D) (r : Bool) : ((a.neg == b.neg) && (l0 a.n == l0 b.n && (l1 a.n == l1 b.n && (l2 a.n == l2 b.n && (l3 a.n == l3 b.n && (a.scale == b.scale && r)))))) = (decide (a = b) && r) := by
  rw [eqN_and, ← Bool.and_assoc, ← Bool.and_assoc]
  congr 1
  rw [Bool.eq_iff_iff]
  simp only [Bool.and_eq_true, beq_iff_eq, decide_eq_true_eq]
  constructor
  · rintro ⟨⟨h1, h2⟩, h3⟩; exact D.eq h1 h2 h3
  · rintro rfl; exact ⟨⟨rfl, rfl⟩, rfl⟩
theorem eqD_ (a b : D) : ((a.neg == b.neg) && (l0 a.n == l0 b.n && (l1 a.n == l1 b.n && (l2 a.n == l2 b.n && (l3 a.n == l3 b.n && (a.scale == b.scale && true)))))) = decide (a = b) := by
  rw [eqD_and, Bool.and_true]
/-- Check: 20 where a number may not be -/
def D.ok (d : D) : Prop := 0 ≤ d.scale ∧ d.scale ≤ 18 ∧ ¬ (d.neg = true ∧ d.n = N0)
instance (d : D) : Decidable d.ok := inferInstanceAs (Decidable (_ ∧ _))
def check (d : D) : Int := if d.ok then 0 else 20
theorem check_ok {d : D} (h : d.ok) : check d = 0 := if_pos h
theorem check_bad {d : D} (h : ¬ d.ok) : check d = 20 := if_neg h
/-- with its sign -/
def D.sv (d : D) : Int := if d.neg then - d.n.v else d.n.v
/-- ten to the p -/
def tenP (p : Int) : Int := 10 ^ p.toNat
theorem tenP_pos (p : Int) : 0 < tenP p := Int.pow_pos (by decide)
theorem tenP_add {p q : Int} (hp : 0 ≤ p) (hq : 0 ≤ q) : tenP (p + q) = tenP p * tenP q := by
  unfold tenP
  rw [show (p + q).toNat = p.toNat + q.toNat by omega, Int.pow_add]
theorem tenP_lt {p : Int} (h : p ≤ 77) : tenP p < B4 := (ten_lt (i := p.toNat) (by omega)).1
/-- so many of the eighteenth digit behind the point -/
def D.val (d : D) : Int := d.sv * tenP (18 - d.scale)
/-- how two integers stand -/
def cmpZ (a b : Int) : Int := if a < b then -1 else if b < a then 1 else 0
def cmpD (a b : D) : Int := if a.ok ∧ b.ok then cmpZ a.val b.val else 0
/-! ### wide numbers -/
abbrev B8 : Int := 13407807929942597099574024998205846127479365820592393377723561443721764030073546976801874298166903427690031858186486050853753882811946569946433649006084096
def eW (x : Int) : Val := .agg [.int .u64 (l0 (mkN (x / B4))), .int .u64 (l1 (mkN (x / B4))), .int .u64 (l2 (mkN (x / B4))), .int .u64 (l3 (mkN (x / B4))), .int .u64 (l0 (mkN x)), .int .u64 (l1 (mkN x)), .int .u64 (l2 (mkN x)), .int .u64 (l3 (mkN x))]
def WW (x : Int) : Prop := 0 ≤ x ∧ x < B8
theorem WW_hi {x : Int} (h : WW x) : (mkN (x / B4)).v = x / B4 := mkN_v (by unfold WW at h; unfold W; unfold B8 at h; unfold B4; omega)
theorem mkN_lo (x : Int) : (mkN x).v = x % B4 := rfl
theorem WW_small {x : Int} (h : 0 ≤ x) (h1 : x < B4) : mkN (x / B4) = N0 := by
  rw [Int.ediv_eq_zero_of_lt h h1]; exact mkN_0
theorem WW_zero_hi {x : Int} (h : WW x) : mkN (x / B4) = N0 ↔ x < B4 := by
  constructor
  · intro e
    have := congrArg N.v e
    rw [WW_hi h] at this
    have : x / B4 = 0 := this
    unfold WW at h; unfold B4 at *; omega
  · intro hl; exact WW_small h.1 hl
theorem WW_times (a : N) {p : Int} (h0 : 0 ≤ p) (h : p ≤ 77) : WW (a.v * tenP p) := by
  have ha := a.h
  have h1 := tenP_pos p
  have h2 := tenP_lt h
  have := mul_lt (m := B4 - 1) (n := B4 - 1) ha.1 (by have := ha.2; omega) (by omega : 0 ≤ tenP p) (by omega)
  have h3 : (B4 - 1) * (B4 - 1) < B8 := by decide
  exact ⟨this.1, by omega⟩
theorem WW_mul (a b : N) : WW (a.v * b.v) := by
  have ha := a.h; have hb := b.h
  have := mul_lt (m := B4 - 1) (n := B4 - 1) ha.1 (by have := ha.2; omega) hb.1 (by have := hb.2; omega)
  have h3 : (B4 - 1) * (B4 - 1) < B8 := by decide
  exact ⟨this.1, by omega⟩
/-- a number of a sign, a size and a scale; 7: it has no room -/
def made (neg : Bool) (x : Int) (scale : Int) : D × Int := if B4 ≤ x then (D0, 7) else (⟨neg && decide (mkN x ≠ N0), mkN x, scale⟩, 0)
/-- of a signed number -/
def madeZ (x : Int) (scale : Int) : D × Int := made (decide (x < 0)) (if x < 0 then -x else x) scale
end Go.AM
namespace Go.AM
theorem eW_low {u : Int} (h0 : 0 ≤ u) (h1 : u < B4) : eW u = .agg [.int .u64 0, .int .u64 0, .int .u64 0, .int .u64 0, .int .u64 (l0 (mkN u)), .int .u64 (l1 (mkN u)), .int .u64 (l2 (mkN u)), .int .u64 (l3 (mkN u))] := by
  unfold eW
  rw [WW_small h0 h1]
  rfl
theorem WW_low {u : Int} (h0 : 0 ≤ u) (h1 : u < B4) : WW u := ⟨h0, by unfold B8; unfold B4 at h1; omega⟩
theorem wrap_neg {n : Int} (h0 : -9223372036854775808 ≤ n) (h1 : n < 0) : IntKind.u64.wrap (0 - IntKind.u64.wrap n) = -n := by rw [w64, w64]; omega
/-! ### slices that are read: lists of values -/
/-- a list as a slice: each element enc x, of sz cells -/
def getL {α : Type} (enc : α → List Val) (l : List α) : Nat → List Val := fun i => match l[i]? with
  | some x => enc x
  | none => []
def eL {α : Type} (sz : Nat) (enc : α → List Val) (l : List α) : Val := .ext sz l.length (getL enc l)
def I64' (n : Int) : Prop := -9223372036854775808 ≤ n ∧ n ≤ 9223372036854775807
theorem getL_at {α : Type} {enc : α → List Val} {l : List α} {i : Nat} {x : α} (h : l[i]? = some x) : getL enc l i = enc x := by unfold getL; rw [h]
end Go.AM
namespace Go.AM
def sl2D (a b : D) : Val := .ext 6 2 (fun i => (pieces 6 2 [.bool a.neg, .int .u64 (l0 a.n), .int .u64 (l1 a.n), .int .u64 (l2 a.n), .int .u64 (l3 a.n), .int .i64 a.scale, .bool b.neg, .int .u64 (l0 b.n), .int .u64 (l1 b.n), .int .u64 (l2 b.n), .int .u64 (l3 b.n), .int .i64 b.scale]).getD i [])
def check2 (a b : D) : Int := if a.ok ∧ b.ok then 0 else 20
/-- numbers held against each other at one scale -/
theorem cmp_scale {a b : D} (ha : a.ok) (hb : b.ok) {s : Int} (h1 : a.scale ≤ s) (h2 : b.scale ≤ s) (h3 : s ≤ 18) :
    cmpZ (a.n.v * tenP (s - a.scale)) (b.n.v * tenP (s - b.scale)) = cmpZ (a.n.v * tenP (18 - a.scale)) (b.n.v * tenP (18 - b.scale)) := by
  have e1 : tenP (18 - a.scale) = tenP (s - a.scale) * tenP (18 - s) := by rw [← tenP_add (by omega) (by omega)]; congr 1; omega
  have e2 : tenP (18 - b.scale) = tenP (s - b.scale) * tenP (18 - s) := by rw [← tenP_add (by omega) (by omega)]; congr 1; omega
  have hp := tenP_pos (18 - s)
  rw [e1, e2, ← Int.mul_assoc, ← Int.mul_assoc]
  generalize a.n.v * tenP (s - a.scale) = x
  generalize b.n.v * tenP (s - b.scale) = y
  unfold cmpZ
  have h4 : x * tenP (18 - s) < y * tenP (18 - s) ↔ x < y := Int.mul_lt_mul_right hp
  have h5 : y * tenP (18 - s) < x * tenP (18 - s) ↔ y < x := Int.mul_lt_mul_right hp
  simp only [h4, h5]
theorem val_pos {d : D} (h : d.neg = false) : d.val = d.n.v * tenP (18 - d.scale) := by unfold D.val D.sv; rw [h]; rfl
theorem val_neg {d : D} (h : d.neg = true) : d.val = - (d.n.v * tenP (18 - d.scale)) := by unfold D.val D.sv; rw [h]; simp [Int.neg_mul]
theorem n_pos {d : D} (h : d.n ≠ N0) : 0 < d.n.v := by
  have := d.n.h.1
  rcases Int.lt_or_eq_of_le this with h1 | h1
  · exact h1
  · exact absurd (N.eq h1.symm) h
theorem mag_pos {d : D} (h : d.n ≠ N0) : 0 < d.n.v * tenP (18 - d.scale) := Int.mul_pos (n_pos h) (tenP_pos _)
end Go.AM
namespace Go.AM
theorem pick_max (a b : Int) : pickM true a b = max a b := by simp only [pickM]; omega
theorem pick_min (a b : Int) : pickM false a b = min a b := by simp only [pickM]; omega
end Go.AM
namespace Go.AM
def sg (z : Prop) [Decidable z] (s : Bool) : Int := if z then 0 else if s = true then -1 else 1
theorem cmpZ_le (x y : Int) : -1 ≤ cmpZ x y ∧ cmpZ x y ≤ 1 := by
  unfold cmpZ
  repeat' split
  all_goals omega
theorem cmp_end {za zb : Prop} [Decidable za] [Decidable zb] {sa sb : Bool} {X Y : Int} (hA0 : za → X = 0) (hA1 : ¬ za → 0 < X) (hB0 : zb → Y = 0) (hB1 : ¬ zb → 0 < Y) :
    (sg za sa ≠ sg zb sb → pickM false (max (IntKind.i64.wrap (sg za sa - sg zb sb)) (-1)) 1 = cmpZ (if sa then -X else X) (if sb then -Y else Y)) ∧
    (sg za sa = sg zb sb → sg za sa = 0 → pickM false (max (IntKind.i64.wrap (sg za sa - sg zb sb)) (-1)) 1 = cmpZ (if sa then -X else X) (if sb then -Y else Y)) ∧
    (sg za sa = sg zb sb → sg za sa ≠ 0 → IntKind.i64.wrap (sg za sa * cmpZ X Y) = cmpZ (if sa then -X else X) (if sb then -Y else Y)) := by
  have hb := cmpZ_le X Y
  unfold sg
  by_cases h1 : za <;> by_cases h2 : zb
  all_goals
    have ha := h1; have hb' := h2
    first | replace hA0 := hA0 h1 | replace hA1 := hA1 h1
    first | replace hB0 := hB0 h2 | replace hB1 := hB1 h2
    simp only [h1, h2, if_true, if_false]
    cases sa <;> cases sb
  all_goals
    simp only [Bool.false_eq_true, if_true, if_false, pick_min]
    refine ⟨fun h => ?_, fun h h' => ?_, fun h h' => ?_⟩
    all_goals
      first
        | (exfalso; omega)
        | skip
    all_goals
      rw [wi64_id (by omega) (by omega)]
      unfold cmpZ at *
      repeat' split
      all_goals
        first
          | omega
          | (repeat' split at hb) <;> omega
end Go.AM

set_option linter.unusedVariables false
set_option linter.unusedSimpArgs false
set_option maxRecDepth 100000
namespace Go.AM
theorem eW_is {x : Int} {h l : N} (eh : h = mkN (x / B4)) (el : l = mkN x) : Val.agg [.int .u64 (l0 h), .int .u64 (l1 h), .int .u64 (l2 h), .int .u64 (l3 h), .int .u64 (l0 l), .int .u64 (l1 l), .int .u64 (l2 l), .int .u64 (l3 l)] = eW x := by
  subst eh; subst el; rfl
theorem mkN_eq {x y : Int} (h : (x - y) % B4 = 0) : mkN x = mkN y := N.eq (by
  show x % B4 = y % B4
  exact Int.emod_eq_emod_iff_emod_sub_eq_zero.2 h)
/-- the two halves of a sum -/
theorem plus_low (x y : Int) : mkN ((mkN x).v + (mkN y).v) = mkN (x + y) := mkN_eq (by simp only [mkN]; unfold B4; omega)
theorem plus_hi0 {x y : Int} (hx : WW x) (hy : WW y) (h : ¬ B4 ≤ (mkN x).v + (mkN y).v) : mkN ((mkN (x / B4)).v + (mkN (y / B4)).v) = mkN ((x + y) / B4) := mkN_eq (by
  rw [WW_hi hx, WW_hi hy]
  simp only [mkN] at h
  unfold B4 at *; omega)
theorem plus_hi1 {x y : Int} (hx : WW x) (hy : WW y) (h : B4 ≤ (mkN x).v + (mkN y).v) : mkN ((mkN ((mkN (x / B4)).v + (mkN (y / B4)).v)).v + (mkN 1).v) = mkN ((x + y) / B4) := by
  rw [plus_low, WW_hi hx, WW_hi hy]
  exact mkN_eq (by
    simp only [mkN] at h
    unfold B4 at *; omega)
theorem less_low (x y : Int) : mkN ((mkN x).v - (mkN y).v) = mkN (x - y) := mkN_eq (by simp only [mkN]; unfold B4; omega)
theorem less_hi0 {x y : Int} (h : ¬ (mkN x).v < (mkN y).v) : mkN ((mkN (x / B4)).v - (mkN (y / B4)).v) = mkN ((x - y) / B4) := mkN_eq (by
  simp only [mkN] at *
  unfold B4 at *; omega)
theorem less_hi1 {x y : Int} (h : (mkN x).v < (mkN y).v) : mkN ((mkN ((mkN (x / B4)).v - (mkN (y / B4)).v)).v - (mkN 1).v) = mkN ((x - y) / B4) := by
  rw [less_low]
  exact mkN_eq (by
    simp only [mkN] at *
    unfold B4 at *; omega)
def addD (a b : D) : D × Int := if a.ok ∧ b.ok then madeZ (a.sv * tenP (max a.scale b.scale - a.scale) + b.sv * tenP (max a.scale b.scale - b.scale)) (max a.scale b.scale) else (D0, 20)
def negOf (a : D) : D × Int := if a.ok then madeZ (- a.sv) a.scale else (D0, 20)
def subD (a b : D) : D × Int := if a.ok ∧ b.ok then madeZ (a.sv * tenP (max a.scale b.scale - a.scale) - b.sv * tenP (max a.scale b.scale - b.scale)) (max a.scale b.scale) else (D0, 20)
/-- a sign and a size -/
def sgd (neg : Bool) (x : Int) : Int := if neg then -x else x
theorem made_sg {neg : Bool} {x : Int} (s : Int) (hx : 0 ≤ x) : made neg x s = madeZ (sgd neg x) s := by
  unfold madeZ sgd
  cases neg
  · rw [decF (by simp; omega), if_neg (by simp; omega)]; simp
  · simp only [if_true]
    by_cases h0 : x = 0
    · subst h0; rfl
    · rw [decT (by omega), if_pos (by omega), Int.neg_neg]
theorem sv_sg (d : D) : d.sv = sgd d.neg d.n.v := rfl
theorem sgd_mul (neg : Bool) (x t : Int) : sgd neg x * t = sgd neg (x * t) := by unfold sgd; cases neg <;> simp [Int.neg_mul]
theorem sgd_add (neg : Bool) (x y : Int) : sgd neg x + sgd neg y = sgd neg (x + y) := by unfold sgd; cases neg <;> simp; omega
theorem sg_not (neg : Bool) (x : Int) : sgd (!neg) x = - sgd neg x := by unfold sgd; cases neg <;> simp
end Go.AM

set_option linter.unusedVariables false
set_option linter.unusedSimpArgs false
set_option maxRecDepth 100000
namespace Go.AM
theorem negOf_ok {b : D} (h : b.ok) : (negOf b).2 = 0 ∧ (negOf b).1.ok ∧ (negOf b).1.sv = - b.sv ∧ (negOf b).1.scale = b.scale := by
  obtain ⟨h1, h2, h3⟩ := h
  have hn := b.n.h
  have e : negOf b = madeZ (- b.sv) b.scale := if_pos ⟨h1, h2, h3⟩
  rw [e, show - b.sv = sgd (!b.neg) b.n.v from (sg_not _ _).symm, ← made_sg _ hn.1]
  unfold made
  rw [if_neg (by have := hn.2; omega), mkN_val]
  refine ⟨rfl, ⟨h1, h2, ?_⟩, ?_, rfl⟩
  · rintro ⟨k1, k2⟩
    simp_all
  · unfold D.sv sgd
    by_cases k : b.n = N0
    · have k0 : b.n.v = 0 := by rw [k]; rfl
      simp [k, k0]
      exact fun _ => rfl
    · cases hb : b.neg <;> simp [k]
theorem subD_neg {a b : D} (ha : a.ok) (hb : b.ok) : subD a b = addD a (negOf b).1 := by
  obtain ⟨_, h1, h2, h3⟩ := negOf_ok hb
  unfold subD addD
  rw [if_pos ⟨ha, hb⟩, if_pos ⟨ha, h1⟩, h2, h3, Int.neg_mul, Int.sub_eq_add_neg]
end Go.AM

set_option linter.unusedVariables false
set_option linter.unusedSimpArgs false
set_option maxRecDepth 100000
namespace Go.AM
theorem N0_iff (a : N) : a = N0 ↔ a.v = 0 := ⟨fun h => by rw [h]; rfl, fun h => N.eq h⟩
/-- is the next one away from nought taken? -/
def upD (p : Int) (neg : Bool) (q r d : Int) : Bool :=
  if r = 0 then false else if p = 1 then decide (d ≤ 2 * r) else if p = 2 then decide (d < 2 * r) || (decide (d = 2 * r) && decide (q % 2 = 1)) else if p = 4 then true else if p = 5 then neg else false
/-- a quotient, rounded -/
def quoD (p : Int) (neg : Bool) (X d : Int) : Int := X / d + if upD p neg (X / d) (X % d) d then 1 else 0
/-- a number of the scale f at the scale s -/
def roundD (neg : Bool) (X f s p : Int) : D × Int :=
  if f ≤ s then if B4 ≤ X then (D0, 7) else made neg (X * tenP (s - f)) s
  else if tenP (f - s) ≤ X / B4 then (D0, 7) else made neg (quoD p neg X (tenP (f - s))) s
def mayD (s p : Int) : Int := if s < 0 ∨ 18 < s then 21 else if p < 1 ∨ 5 < p then 22 else 0
def mulToD (a b : D) (s p : Int) : D × Int := if a.ok ∧ b.ok then if mayD s p = 0 then roundD (a.neg != b.neg) (a.n.v * b.n.v) (a.scale + b.scale) s p else (D0, mayD s p) else (D0, 20)
def rescaleD (a : D) (s p : Int) : D × Int := if a.ok then if mayD s p = 0 then roundD a.neg a.n.v a.scale s p else (D0, mayD s p) else (D0, 20)
theorem quoD_le {p X d : Int} {neg : Bool} (hX : 0 ≤ X) (hd : 0 < d) (h : X / B4 < d) (hx : X < B8) : 0 ≤ X / d ∧ X / d < B4 ∧ 0 ≤ quoD p neg X d ∧ quoD p neg X d ≤ B4 := by
  have h0 : 0 ≤ X / d := Int.ediv_nonneg hX (by omega)
  have h1 : X / d < B4 := by
    rw [Int.ediv_lt_iff_lt_mul hd]
    have : X < (X / B4 + 1) * B4 := by have := Int.mul_ediv_add_emod X B4; have := Int.emod_lt_of_pos X (show 0 < B4 by decide); rw [Int.add_mul, Int.one_mul, Int.mul_comm (X / B4)]; omega
    have h2 : (X / B4 + 1) * B4 ≤ d * B4 := Int.mul_le_mul_of_nonneg_right (by omega) (by decide)
    rw [Int.mul_comm]; omega
  refine ⟨h0, h1, ?_, ?_⟩
  · unfold quoD; split <;> omega
  · unfold quoD; split <;> omega
end Go.AM

set_option linter.unusedVariables false
set_option linter.unusedSimpArgs false
set_option maxRecDepth 100000
namespace Go.AM
theorem madeZ_ok {z s : Int} (hs : 0 ≤ s ∧ s ≤ 18) : ((madeZ z s).2 = 7 ∧ (madeZ z s).1 = D0 ∧ (B4 ≤ z ∨ z ≤ -B4)) ∨ ((madeZ z s).2 = 0 ∧ (madeZ z s).1.ok ∧ (madeZ z s).1.sv = z ∧ (madeZ z s).1.scale = s ∧ -B4 < z ∧ z < B4) := by
  unfold madeZ made
  by_cases h : B4 ≤ (if z < 0 then -z else z)
  · left; rw [if_pos h]; refine ⟨rfl, rfl, ?_⟩; split at h <;> omega
  · right; rw [if_neg h]
    have hv : (mkN (if z < 0 then -z else z)).v = if z < 0 then -z else z := mkN_v ⟨by split <;> omega, by split at h <;> split <;> omega⟩
    refine ⟨rfl, ⟨hs.1, hs.2, ?_⟩, ?_, rfl, ?_, ?_⟩
    · rintro ⟨h1, h2⟩
      simp only at h1 h2
      rw [h2] at h1; simp at h1
    · have hz := N0_iff (mkN (if z < 0 then -z else z))
      rw [hv] at hz
      simp only [D.sv, hv]
      by_cases h0 : z < 0
      · have hne : ¬ mkN (if z < 0 then -z else z) = N0 := fun e => by have := hz.1 e; rw [if_pos h0] at this; omega
        rw [if_pos (by simp only [Bool.and_eq_true, decide_eq_true_eq]; exact ⟨h0, hne⟩), if_pos h0]; omega
      · rw [if_neg (by simp [h0]), if_neg h0]
    · split at h <;> omega
    · split at h <;> omega
theorem ten_up {z a s : Int} (h1 : a ≤ s) (h2 : s ≤ 18) : z * tenP (s - a) * tenP (18 - s) = z * tenP (18 - a) := by
  rw [Int.mul_assoc, ← tenP_add (by omega) (by omega)]; congr 2; omega
theorem val_of {d : D} {z s : Int} (h1 : d.sv = z) (h2 : d.scale = s) : d.val = z * tenP (18 - s) := by unfold D.val; rw [h1, h2]
theorem subD_ok {a b : D} (ha : a.ok) (hb : b.ok) : (subD a b).2 = 7 ∨ ((subD a b).2 = 0 ∧ (subD a b).1.ok ∧ (subD a b).1.val = a.val - b.val ∧ (subD a b).1.scale = max a.scale b.scale) := by
  have e : subD a b = _ := if_pos ⟨ha, hb⟩
  obtain ⟨a1, a2, _⟩ := ha; obtain ⟨b1, b2, _⟩ := hb
  rw [e]
  rcases madeZ_ok (z := a.sv * tenP (max a.scale b.scale - a.scale) - b.sv * tenP (max a.scale b.scale - b.scale)) (s := max a.scale b.scale) ⟨by omega, by omega⟩ with h | ⟨h1, h2, h3, h4, _⟩
  · exact .inl h.1
  · refine .inr ⟨h1, h2, ?_, h4⟩
    rw [val_of h3 h4, Int.sub_mul, ten_up (by omega) (by omega), ten_up (by omega) (by omega)]; rfl
theorem cmpD_ok {a b : D} (ha : a.ok) (hb : b.ok) : cmpD a b = cmpZ a.val b.val := if_pos ⟨ha, hb⟩
theorem cmpZ_le0 {x y : Int} : cmpZ x y ≤ 0 ↔ x ≤ y := by unfold cmpZ; repeat' split
                                                          all_goals omega
/-! ### rounding -/
/-! ### the least scale -/
end Go.AM

set_option linter.unusedVariables false
set_option linter.unusedSimpArgs false
set_option maxRecDepth 100000
namespace Go.AM
theorem cmpZ_lt0 {x y : Int} : cmpZ x y < 0 ↔ x < y := by
  unfold cmpZ
  repeat' split
  all_goals omega
end Go.AM

