/- Decimal numbers: what they are as values, what is said of them. -/
import Derived.Test.YtenlkhlkohnmkaaAmGL
set_option linter.unusedVariables false
set_option linter.unusedSimpArgs false
set_option maxRecDepth 100000
namespace Go.AM
structure D where
  neg : Bool
  n : N
  scale : Int
  deriving DecidableEq
def D0 : D := ⟨false, N0, 0⟩
def cD (d : D) : List Val := [.bool d.neg, .int .u64 (l0 d.n), .int .u64 (l1 d.n), .int .u64 (l2 d.n), .int .u64 (l3 d.n), .int .i64 d.scale]
def eD (d : D) : Val := .agg (cD d)
theorem D.eq {a b : D} (h1 : a.neg = b.neg) (h2 : a.n = b.n) (h3 : a.scale = b.scale) : a = b := by
  cases a; cases b; simp only at h1 h2 h3; subst h1; subst h2; subst h3; rfl
theorem eqD_and (a b : D) (r : Bool) : ((a.neg == b.neg) && (l0 a.n == l0 b.n && (l1 a.n == l1 b.n && (l2 a.n == l2 b.n && (l3 a.n == l3 b.n && (a.scale == b.scale && r)))))) = (decide (a = b) && r) := by
  rw [eqN_and, ← Bool.and_assoc, ← Bool.and_assoc]
  congr 1
  rw [Bool.eq_iff_iff]
  simp only [Bool.and_eq_true, beq_iff_eq, decide_eq_true_eq]
  constructor
  · rintro ⟨⟨h1, h2⟩, h3⟩; exact D.eq h1 h2 h3
  · rintro rfl; exact ⟨⟨rfl, rfl⟩, rfl⟩
theorem eqD_ (a b : D) : ((a.neg == b.neg) && (l0 a.n == l0 b.n && (l1 a.n == l1 b.n && (l2 a.n == l2 b.n && (l3 a.n == l3 b.n && (a.scale == b.scale && true)))))) = decide (a = b) := by
  rw [eqD_and, Bool.and_true]
/-- Check: 20 where a number may not be -/
def D.ok (d : D) : Prop := 0 ≤ d.scale ∧ d.scale ≤ 18 ∧ ¬ (d.neg = true ∧ d.n = N0)
instance (d : D) : Decidable d.ok := inferInstanceAs (Decidable (_ ∧ _))
def check (d : D) : Int := if d.ok then 0 else 20
theorem check_ok {d : D} (h : d.ok) : check d = 0 := if_pos h
theorem check_bad {d : D} (h : ¬ d.ok) : check d = 20 := if_neg h
/-- with its sign -/
def D.sv (d : D) : Int := if d.neg then - d.n.v else d.n.v
/-- ten to the p -/
def tenP (p : Int) : Int := 10 ^ p.toNat
theorem tenP_pos (p : Int) : 0 < tenP p := Int.pow_pos (by decide)
theorem tenP_add {p q : Int} (hp : 0 ≤ p) (hq : 0 ≤ q) : tenP (p + q) = tenP p * tenP q := by
  unfold tenP
  rw [show (p + q).toNat = p.toNat + q.toNat by omega, Int.pow_add]
theorem tenP_lt {p : Int} (h : p ≤ 77) : tenP p < B4 := (ten_lt (i := p.toNat) (by omega)).1
/-- so many of the eighteenth digit behind the point -/
def D.val (d : D) : Int := d.sv * tenP (18 - d.scale)
/-- how two integers stand -/
def cmpZ (a b : Int) : Int := if a < b then -1 else if b < a then 1 else 0
def cmpD (a b : D) : Int := if a.ok ∧ b.ok then cmpZ a.val b.val else 0
/-! ### wide numbers -/
abbrev B8 : Int := 13407807929942597099574024998205846127479365820592393377723561443721764030073546976801874298166903427690031858186486050853753882811946569946433649006084096
theorem B8_eq : B8 = B4 * B4 := by decide
def eW (x : Int) : Val := .agg [.int .u64 (l0 (mkN (x / B4))), .int .u64 (l1 (mkN (x / B4))), .int .u64 (l2 (mkN (x / B4))), .int .u64 (l3 (mkN (x / B4))), .int .u64 (l0 (mkN x)), .int .u64 (l1 (mkN x)), .int .u64 (l2 (mkN x)), .int .u64 (l3 (mkN x))]
def WW (x : Int) : Prop := 0 ≤ x ∧ x < B8
theorem WW_hi {x : Int} (h : WW x) : (mkN (x / B4)).v = x / B4 := mkN_v (by unfold WW at h; unfold W; unfold B8 at h; unfold B4; omega)
theorem mkN_lo (x : Int) : (mkN x).v = x % B4 := rfl
theorem WW_small {x : Int} (h : 0 ≤ x) (h1 : x < B4) : mkN (x / B4) = N0 := by
  rw [Int.ediv_eq_zero_of_lt h h1]; exact mkN_0
theorem WW_zero_hi {x : Int} (h : WW x) : mkN (x / B4) = N0 ↔ x < B4 := by
  constructor
  · intro e
    have := congrArg N.v e
    rw [WW_hi h] at this
    have : x / B4 = 0 := this
    unfold WW at h; unfold B4 at *; omega
  · intro hl; exact WW_small h.1 hl
theorem WW_times (a : N) {p : Int} (h0 : 0 ≤ p) (h : p ≤ 77) : WW (a.v * tenP p) := by
  have ha := a.h
  have h1 := tenP_pos p
  have h2 := tenP_lt h
  have := mul_lt (m := B4 - 1) (n := B4 - 1) ha.1 (by have := ha.2; omega) (by omega : 0 ≤ tenP p) (by omega)
  have h3 : (B4 - 1) * (B4 - 1) < B8 := by decide
  exact ⟨this.1, by omega⟩
theorem WW_mul (a b : N) : WW (a.v * b.v) := by
  have ha := a.h; have hb := b.h
  have := mul_lt (m := B4 - 1) (n := B4 - 1) ha.1 (by have := ha.2; omega) hb.1 (by have := hb.2; omega)
  have h3 : (B4 - 1) * (B4 - 1) < B8 := by decide
  exact ⟨this.1, by omega⟩
/-- a number of a sign, a size and a scale; 7: it has no room -/
def made (neg : Bool) (x : Int) (scale : Int) : D × Int := if B4 ≤ x then (D0, 7) else (⟨neg && decide (mkN x ≠ N0), mkN x, scale⟩, 0)
/-- of a signed number -/
def madeZ (x : Int) (scale : Int) : D × Int := made (decide (x < 0)) (if x < 0 then -x else x) scale
end Go.AM
namespace Go.AM
theorem eW_low {u : Int} (h0 : 0 ≤ u) (h1 : u < B4) : eW u = .agg [.int .u64 0, .int .u64 0, .int .u64 0, .int .u64 0, .int .u64 (l0 (mkN u)), .int .u64 (l1 (mkN u)), .int .u64 (l2 (mkN u)), .int .u64 (l3 (mkN u))] := by
  unfold eW
  rw [WW_small h0 h1]
  rfl
theorem WW_low {u : Int} (h0 : 0 ≤ u) (h1 : u < B4) : WW u := ⟨h0, by unfold B8; unfold B4 at h1; omega⟩
theorem wrap_neg {n : Int} (h0 : -9223372036854775808 ≤ n) (h1 : n < 0) : IntKind.u64.wrap (0 - IntKind.u64.wrap n) = -n := by rw [w64, w64]; omega
/-! ### slices that are read: lists of values -/
/-- a list as a slice: each element enc x, of sz cells -/
def getL {α : Type} (enc : α → List Val) (l : List α) : Nat → List Val := fun i => match l[i]? with
  | some x => enc x
  | none => []
def eL {α : Type} (sz : Nat) (enc : α → List Val) (l : List α) : Val := .ext sz l.length (getL enc l)
def I64' (n : Int) : Prop := -9223372036854775808 ≤ n ∧ n ≤ 9223372036854775807
theorem getL_at {α : Type} {enc : α → List Val} {l : List α} {i : Nat} {x : α} (h : l[i]? = some x) : getL enc l i = enc x := by unfold getL; rw [h]
theorem getL_pieces2 {α : Type} {enc : α → List Val} {sz : Nat} {x y : α} (hx : (enc x).length = sz) (hy : (enc y).length = sz) : (fun i => (pieces sz 2 (enc x ++ enc y)).getD i []) = getL enc [x, y] := by
  have e : pieces sz 2 (enc x ++ enc y) = [enc x, enc y] := by
    simp only [pieces]
    rw [List.take_left' hx, List.drop_left' hx, List.take_of_length_le (by omega)]
  rw [e]
  funext i
  match i with
  | 0 => rfl
  | 1 => rfl
  | i + 2 => rfl
end Go.AM
namespace Go.AM
def sl2D (a b : D) : Val := .ext 6 2 (fun i => (pieces 6 2 [.bool a.neg, .int .u64 (l0 a.n), .int .u64 (l1 a.n), .int .u64 (l2 a.n), .int .u64 (l3 a.n), .int .i64 a.scale, .bool b.neg, .int .u64 (l0 b.n), .int .u64 (l1 b.n), .int .u64 (l2 b.n), .int .u64 (l3 b.n), .int .i64 b.scale]).getD i [])
def check2 (a b : D) : Int := if a.ok ∧ b.ok then 0 else 20
theorem sgn_zero {d : D} (h : d.ok) (hn : d.n = N0) : d.neg = false := by
  cases e : d.neg
  · rfl
  · exact absurd ⟨e, hn⟩ h.2.2
/-- numbers held against each other at one scale -/
theorem cmp_scale {a b : D} (ha : a.ok) (hb : b.ok) {s : Int} (h1 : a.scale ≤ s) (h2 : b.scale ≤ s) (h3 : s ≤ 18) :
    cmpZ (a.n.v * tenP (s - a.scale)) (b.n.v * tenP (s - b.scale)) = cmpZ (a.n.v * tenP (18 - a.scale)) (b.n.v * tenP (18 - b.scale)) := by
  have e1 : tenP (18 - a.scale) = tenP (s - a.scale) * tenP (18 - s) := by rw [← tenP_add (by omega) (by omega)]; congr 1; omega
  have e2 : tenP (18 - b.scale) = tenP (s - b.scale) * tenP (18 - s) := by rw [← tenP_add (by omega) (by omega)]; congr 1; omega
  have hp := tenP_pos (18 - s)
  rw [e1, e2, ← Int.mul_assoc, ← Int.mul_assoc]
  generalize a.n.v * tenP (s - a.scale) = x
  generalize b.n.v * tenP (s - b.scale) = y
  unfold cmpZ
  have h4 : x * tenP (18 - s) < y * tenP (18 - s) ↔ x < y := Int.mul_lt_mul_right hp
  have h5 : y * tenP (18 - s) < x * tenP (18 - s) ↔ y < x := Int.mul_lt_mul_right hp
  simp only [h4, h5]
theorem val_pos {d : D} (h : d.neg = false) : d.val = d.n.v * tenP (18 - d.scale) := by unfold D.val D.sv; rw [h]; rfl
theorem val_neg {d : D} (h : d.neg = true) : d.val = - (d.n.v * tenP (18 - d.scale)) := by unfold D.val D.sv; rw [h]; simp [Int.neg_mul]
theorem n_pos {d : D} (h : d.n ≠ N0) : 0 < d.n.v := by
  have := d.n.h.1
  rcases Int.lt_or_eq_of_le this with h1 | h1
  · exact h1
  · exact absurd (N.eq h1.symm) h
theorem mag_nonneg (d : D) : 0 ≤ d.n.v * tenP (18 - d.scale) := Int.mul_nonneg d.n.h.1 (by have := tenP_pos (18 - d.scale); omega)
theorem mag_pos {d : D} (h : d.n ≠ N0) : 0 < d.n.v * tenP (18 - d.scale) := Int.mul_pos (n_pos h) (tenP_pos _)
end Go.AM
namespace Go.AM
theorem pick_max (a b : Int) : pickM true a b = max a b := by simp only [pickM]; omega
theorem pick_min (a b : Int) : pickM false a b = min a b := by simp only [pickM]; omega
end Go.AM
namespace Go.AM
def sg (z : Prop) [Decidable z] (s : Bool) : Int := if z then 0 else if s = true then -1 else 1
theorem sg_wrap {x y : Int} (h0 : -2 ≤ x * y) (h1 : x * y ≤ 2) : IntKind.i64.wrap (x * y) = x * y := wi64_id (by omega) (by omega)
theorem cmpZ_le (x y : Int) : -1 ≤ cmpZ x y ∧ cmpZ x y ≤ 1 := by
  unfold cmpZ
  repeat' split
  all_goals omega
theorem cmp_end {za zb : Prop} [Decidable za] [Decidable zb] {sa sb : Bool} {X Y : Int} (hA0 : za → X = 0) (hA1 : ¬ za → 0 < X) (hB0 : zb → Y = 0) (hB1 : ¬ zb → 0 < Y) :
    (sg za sa ≠ sg zb sb → pickM false (max (IntKind.i64.wrap (sg za sa - sg zb sb)) (-1)) 1 = cmpZ (if sa then -X else X) (if sb then -Y else Y)) ∧
    (sg za sa = sg zb sb → sg za sa = 0 → pickM false (max (IntKind.i64.wrap (sg za sa - sg zb sb)) (-1)) 1 = cmpZ (if sa then -X else X) (if sb then -Y else Y)) ∧
    (sg za sa = sg zb sb → sg za sa ≠ 0 → IntKind.i64.wrap (sg za sa * cmpZ X Y) = cmpZ (if sa then -X else X) (if sb then -Y else Y)) := by
  have hb := cmpZ_le X Y
  unfold sg
  by_cases h1 : za <;> by_cases h2 : zb
  all_goals
    have ha := h1; have hb' := h2
    first | replace hA0 := hA0 h1 | replace hA1 := hA1 h1
    first | replace hB0 := hB0 h2 | replace hB1 := hB1 h2
    simp only [h1, h2, if_true, if_false]
    cases sa <;> cases sb
  all_goals
    simp only [Bool.false_eq_true, if_true, if_false, pick_min]
    refine ⟨fun h => ?_, fun h h' => ?_, fun h h' => ?_⟩
    all_goals
      first
        | (exfalso; omega)
        | skip
    all_goals
      rw [wi64_id (by omega) (by omega)]
      unfold cmpZ at *
      repeat' split
      all_goals
        first
          | omega
          | (repeat' split at hb) <;> omega
end Go.AM
set_option linter.unusedVariables false
set_option linter.unusedSimpArgs false
set_option maxRecDepth 100000
namespace Go.AM
/-- 2^320 -/
abbrev B5 : Int := 2135987035920910082395021706169552114602704522356652769947041607822219725780640550022962086936576
structure Wd where
  v : Int
  h : 0 ≤ v ∧ v < B5
theorem Wd.eq {a b : Wd} (h : a.v = b.v) : a = b := by
  cases a; cases b; simp only at h; subst h; rfl
instance : DecidableEq Wd := fun a b => if h : a.v = b.v then .isTrue (Wd.eq h) else .isFalse fun e => h (by rw [e])
def mkW (x : Int) : Wd := ⟨x % B5, by unfold B5; omega⟩
theorem mkW_v {x : Int} (h : 0 ≤ x ∧ x < B5) : (mkW x).v = x := Int.emod_eq_of_lt h.1 h.2
theorem mkW_val (a : Wd) : mkW a.v = a := Wd.eq (mkW_v a.h)
def Wd0 : Wd := ⟨0, by decide⟩
def m0 (a : Wd) : Int := a.v % 18446744073709551616
def m1 (a : Wd) : Int := a.v / 18446744073709551616 % 18446744073709551616
def m2 (a : Wd) : Int := a.v / 18446744073709551616 / 18446744073709551616 % 18446744073709551616
def m3 (a : Wd) : Int := a.v / 18446744073709551616 / 18446744073709551616 / 18446744073709551616 % 18446744073709551616
def m4 (a : Wd) : Int := a.v / 18446744073709551616 / 18446744073709551616 / 18446744073709551616 / 18446744073709551616 % 18446744073709551616
theorem m0_U (a : Wd) : U (m0 a) := by unfold U m0; omega
theorem m1_U (a : Wd) : U (m1 a) := by unfold U m1; omega
theorem m2_U (a : Wd) : U (m2 a) := by unfold U m2; omega
theorem m3_U (a : Wd) : U (m3 a) := by unfold U m3; omega
theorem m4_U (a : Wd) : U (m4 a) := by unfold U m4; omega
def cWd (a : Wd) : List Val := [.int .u64 (m0 a), .int .u64 (m1 a), .int .u64 (m2 a), .int .u64 (m3 a), .int .u64 (m4 a)]
def eWd (a : Wd) : Val := .agg (cWd a)
def val5 (x0 x1 x2 x3 x4 : Int) : Int := x0 + 18446744073709551616 * (x1 + 18446744073709551616 * (x2 + 18446744073709551616 * (x3 + 18446744073709551616 * x4)))
theorem wlimbs_v (a : Wd) : a.v = val5 (m0 a) (m1 a) (m2 a) (m3 a) (m4 a) := by
  obtain ⟨v, h0, h1⟩ := a
  unfold B5 at h1
  unfold val5 m0 m1 m2 m3 m4
  simp only
  have h3 : 0 ≤ v / 18446744073709551616 := by omega
  have h2 : v / 18446744073709551616 < 115792089237316195423570985008687907853269984665640564039457584007913129639936 := by omega
  generalize hm : v / 18446744073709551616 = m at *
  have h4 : m / 18446744073709551616 < 6277101735386680763835789423207666416102355444464034512896 := by omega
  have h5 : 0 ≤ m / 18446744073709551616 := by omega
  generalize hk : m / 18446744073709551616 = k at *
  have h6 : k / 18446744073709551616 < 340282366920938463463374607431768211456 := by omega
  have h7 : 0 ≤ k / 18446744073709551616 := by omega
  generalize hj : k / 18446744073709551616 = j at *
  omega
def ofW (x0 x1 x2 x3 x4 : Int) : Wd := mkW (val5 x0 x1 x2 x3 x4)
theorem val5_lt {x0 x1 x2 x3 x4 : Int} (h0 : U x0) (h1 : U x1) (h2 : U x2) (h3 : U x3) (h4 : U x4) : 0 ≤ val5 x0 x1 x2 x3 x4 ∧ val5 x0 x1 x2 x3 x4 < B5 := by
  unfold U at *; unfold val5 B5; omega
theorem ofW_m {x0 x1 x2 x3 x4 : Int} (h0 : U x0) (h1 : U x1) (h2 : U x2) (h3 : U x3) (h4 : U x4) : m0 (ofW x0 x1 x2 x3 x4) = x0 ∧ m1 (ofW x0 x1 x2 x3 x4) = x1 ∧ m2 (ofW x0 x1 x2 x3 x4) = x2 ∧ m3 (ofW x0 x1 x2 x3 x4) = x3 ∧ m4 (ofW x0 x1 x2 x3 x4) = x4 := by
  have hv : (ofW x0 x1 x2 x3 x4).v = val5 x0 x1 x2 x3 x4 := mkW_v (val5_lt h0 h1 h2 h3 h4)
  unfold m0 m1 m2 m3 m4
  rw [hv]
  unfold val5
  rw [(div_limb h0).1, (div_limb h0).2, (div_limb h1).1, (div_limb h1).2, (div_limb h2).1, (div_limb h2).2, (div_limb h3).1, (div_limb h3).2]
  unfold U at h4
  rw [Int.emod_eq_of_lt h4.1 h4.2]
  exact ⟨rfl, rfl, rfl, rfl, rfl⟩
theorem wlimbs_eq {a b : Wd} (h0 : m0 a = m0 b) (h1 : m1 a = m1 b) (h2 : m2 a = m2 b) (h3 : m3 a = m3 b) (h4 : m4 a = m4 b) : a = b := Wd.eq (by rw [wlimbs_v a, wlimbs_v b, h0, h1, h2, h3, h4])
theorem ofW_agg {x0 x1 x2 x3 x4 : Int} (h0 : U x0) (h1 : U x1) (h2 : U x2) (h3 : U x3) (h4 : U x4) : Val.agg [.int .u64 x0, .int .u64 x1, .int .u64 x2, .int .u64 x3, .int .u64 x4] = eWd (ofW x0 x1 x2 x3 x4) := by
  have h := ofW_m h0 h1 h2 h3 h4
  unfold eWd cWd
  rw [h.1, h.2.1, h.2.2.1, h.2.2.2.1, h.2.2.2.2]
theorem eWd_is {n x0 x1 x2 x3 x4 : Int} (h0 : U x0) (h1 : U x1) (h2 : U x2) (h3 : U x3) (h4 : U x4) (e : n % B5 = val5 x0 x1 x2 x3 x4) : Val.agg [.int .u64 x0, .int .u64 x1, .int .u64 x2, .int .u64 x3, .int .u64 x4] = eWd (mkW n) := by
  rw [ofW_agg h0 h1 h2 h3 h4]
  congr 1
  apply Wd.eq
  rw [ofW, mkW_v (val5_lt h0 h1 h2 h3 h4), ← e]; rfl
theorem eqWd_and (a b : Wd) (r : Bool) : (m0 a == m0 b && (m1 a == m1 b && (m2 a == m2 b && (m3 a == m3 b && (m4 a == m4 b && r))))) = (decide (a = b) && r) := by
  have e : (m0 a == m0 b && (m1 a == m1 b && (m2 a == m2 b && (m3 a == m3 b && (m4 a == m4 b && true))))) = decide (a = b) := by
    rw [Bool.eq_iff_iff]
    simp only [Bool.and_eq_true, beq_iff_eq, decide_eq_true_eq, and_true]
    constructor
    · rintro ⟨h0, h1, h2, h3, h4⟩; exact wlimbs_eq h0 h1 h2 h3 h4
    · rintro rfl; exact ⟨rfl, rfl, rfl, rfl, rfl⟩
  rw [← e]; simp [Bool.and_assoc]
theorem eqWd_ (a b : Wd) : (m0 a == m0 b && (m1 a == m1 b && (m2 a == m2 b && (m3 a == m3 b && (m4 a == m4 b && true))))) = decide (a = b) := by rw [eqWd_and, Bool.and_true]
theorem U_mod (x : Int) : U (x % 18446744073709551616) := by unfold U; omega
theorem mkW_mod (x : Int) : mkW (x % B5) = mkW x := Wd.eq (by unfold mkW; simp only [Int.emod_emod_of_dvd _ (Int.dvd_refl _)])
theorem mkW_is {x y : Int} (h : (x - y) % B5 = 0) : mkW x = mkW y := Wd.eq (by unfold mkW; exact Int.emod_eq_emod_iff_emod_sub_eq_zero.2 h)
def wneg (w : Wd) : Wd := mkW (- w.v)
/-- wide of a decimal -/
def widen (d : D) : Wd := mkW (if d.neg then - d.n.v else d.n.v)
def topW (w : Wd) : Bool := decide (1067993517960455041197510853084776057301352261178326384973520803911109862890320275011481043468288 ≤ w.v)
def absW (w : Wd) : Wd := if topW w then wneg w else w
def narrow (w : Wd) (s : Int) : D × Int := if s < 0 ∨ 18 < s then (D0, 1) else if B4 ≤ (absW w).v then (D0, 7) else (⟨topW w, mkN (absW w).v, s⟩, 0)
theorem m4_lt (w : Wd) : m4 w = 0 ↔ w.v < B4 := by
  have := wlimbs_v w
  have a0 := m0_U w; have a1 := m1_U w; have a2 := m2_U w; have a3 := m3_U w; have a4 := m4_U w
  unfold U at *; unfold val5 at this; unfold B4
  omega
theorem m4_top (w : Wd) : (m4 w / 9223372036854775808 == 1) = topW w := by
  have := wlimbs_v w
  have a0 := m0_U w; have a1 := m1_U w; have a2 := m2_U w; have a3 := m3_U w; have a4 := m4_U w
  unfold topW
  rw [Bool.eq_iff_iff, beq_iff_eq, decide_eq_true_eq]
  unfold U at *; unfold val5 at this
  omega
theorem ml (w : Wd) (h : w.v < B4) : l0 (mkN w.v) = m0 w ∧ l1 (mkN w.v) = m1 w ∧ l2 (mkN w.v) = m2 w ∧ l3 (mkN w.v) = m3 w := by
  have e : (mkN w.v).v = w.v := mkN_v ⟨w.h.1, h⟩
  have h4 := (m4_lt w).2 h
  unfold l0 l1 l2 l3 m0 m1 m2 m3
  rw [e]
  refine ⟨rfl, rfl, rfl, ?_⟩
  have : w.v / 18446744073709551616 / 18446744073709551616 / 18446744073709551616 / 18446744073709551616 % 18446744073709551616 = 0 := h4
  have h0 := w.h.1
  unfold B4 at h
  generalize w.v = v at *
  omega
theorem narrow_low {w : Wd} {s : Int} (h : s < 0) : narrow w s = (D0, 1) := if_pos (.inl h)
theorem narrow_far {w : Wd} {s : Int} (h : s > 18) : narrow w s = (D0, 1) := if_pos (.inr h)
theorem absW_t {w : Wd} (h : 1067993517960455041197510853084776057301352261178326384973520803911109862890320275011481043468288 ≤ w.v) : absW w = wneg w := if_pos (decide_eq_true h)
theorem absW_f {w : Wd} (h : ¬ 1067993517960455041197510853084776057301352261178326384973520803911109862890320275011481043468288 ≤ w.v) : absW w = w := if_neg (by simpa [topW] using h)
theorem narrow_over {w x : Wd} {s : Int} (h0 : ¬ s < 0) (h1 : ¬ s > 18) (hx : absW w = x) (h : ¬ m4 x = 0) : narrow w s = (D0, 7) := by
  subst hx
  unfold narrow
  rw [if_neg (by omega), if_pos (by have := (not_congr (m4_lt (absW w))).1 h; omega)]
theorem narrow_ok {w x : Wd} {s : Int} (h0 : ¬ s < 0) (h1 : ¬ s > 18) (hx : absW w = x) (h : m4 x = 0) : narrow w s = (⟨topW w, mkN x.v, s⟩, 0) := by
  subst hx
  unfold narrow
  rw [if_neg (by omega), if_neg (by have := (m4_lt (absW w)).1 h; omega)]
theorem narrow_eD {t : Bool} {x : Wd} {s : Int} (h : m4 x = 0) : Val.agg [.bool t, .int .u64 (m0 x), .int .u64 (m1 x), .int .u64 (m2 x), .int .u64 (m3 x), .int .i64 s] = eD ⟨t, mkN x.v, s⟩ := by
  have e := ml x ((m4_lt x).1 h)
  rw [← e.1, ← e.2.1, ← e.2.2.1, ← e.2.2.2]; rfl
end Go.AM
set_option linter.unusedVariables false
set_option linter.unusedSimpArgs false
set_option maxRecDepth 100000
namespace Go.AM
structure Vl where
  kind : Int
  num : D
  flag : Bool
  text : ByteArray
  err : Int
def Vl0 : Vl := ⟨0, D0, false, ⟨#[]⟩, 0⟩
def cV (v : Vl) : List Val := [.int .i64 v.kind, .bool v.num.neg, .int .u64 (l0 v.num.n), .int .u64 (l1 v.num.n), .int .u64 (l2 v.num.n), .int .u64 (l3 v.num.n), .int .i64 v.num.scale, .bool v.flag, .str v.text, .int .i64 v.err]
def eV (v : Vl) : Val := .agg (cV v)
structure Sm where
  rows : Int
  filled : Int
  blank : Int
  bad : Int
  err : Int
  total : Wd
  some : Bool
  min : D
  max : D
def Sm0 : Sm := ⟨0, 0, 0, 0, 0, Wd0, false, D0, D0⟩
def cS (s : Sm) : List Val := [.int .i64 s.rows, .int .i64 s.filled, .int .i64 s.blank, .int .i64 s.bad, .int .i64 s.err, .int .u64 (m0 s.total), .int .u64 (m1 s.total), .int .u64 (m2 s.total), .int .u64 (m3 s.total), .int .u64 (m4 s.total), .bool s.some,
  .bool s.min.neg, .int .u64 (l0 s.min.n), .int .u64 (l1 s.min.n), .int .u64 (l2 s.min.n), .int .u64 (l3 s.min.n), .int .i64 s.min.scale,
  .bool s.max.neg, .int .u64 (l0 s.max.n), .int .u64 (l1 s.max.n), .int .u64 (l2 s.max.n), .int .u64 (l3 s.max.n), .int .i64 s.max.scale]
def eS (s : Sm) : Val := .agg (cS s)
def badS (e : Int) : Sm := ⟨1, 0, 0, 1, e, Wd0, false, D0, D0⟩
def numS (d : D) : Sm := ⟨1, 1, 0, 0, 0, widen d, true, d, d⟩
def blankS : Sm := ⟨1, 0, 1, 0, 0, Wd0, false, D0, D0⟩
def fullS : Sm := ⟨1, 1, 0, 0, 0, Wd0, false, D0, D0⟩
def ofVl (v : Vl) (s : Int) : Sm :=
  if v.kind = 0 then blankS else if v.kind = 2 ∨ v.kind = 3 then fullS else if v.kind = 1 ∧ v.num.ok ∧ v.num.scale = s then numS v.num
  else if v.kind = 4 ∧ 1 ≤ v.err then badS v.err else badS 2
theorem check_zero {d : D} : check d = 0 ↔ d.ok := by
  constructor
  · intro h
    by_cases k : d.ok
    · exact k
    · rw [check_bad k] at h; omega
  · exact check_ok
theorem ofVl0 {v : Vl} {s : Int} (h : v.kind = 0) : ofVl v s = blankS := if_pos h
theorem ofVl2 {v : Vl} {s : Int} (h : v.kind = 2 ∨ v.kind = 3) : ofVl v s = fullS := by unfold ofVl; rw [if_neg (by omega), if_pos h]
theorem ofVl1 {v : Vl} {s : Int} (h : v.kind = 1) (h1 : check v.num = 0) (h2 : v.num.scale = s) : ofVl v s = numS v.num := by
  unfold ofVl; rw [if_neg (by omega), if_neg (by omega), if_pos ⟨h, check_zero.1 h1, h2⟩]
theorem ofVl1a {v : Vl} {s : Int} (h : v.kind = 1) (h1 : ¬ check v.num = 0) : ofVl v s = badS 2 := by
  unfold ofVl; rw [if_neg (by omega), if_neg (by omega), if_neg (fun k => h1 (check_zero.2 k.2.1)), if_neg (by omega)]
theorem ofVl1b {v : Vl} {s : Int} (h : v.kind = 1) (h1 : ¬ v.num.scale = s) : ofVl v s = badS 2 := by
  unfold ofVl; rw [if_neg (by omega), if_neg (by omega), if_neg (fun k => h1 k.2.2), if_neg (by omega)]
theorem ofVl4 {v : Vl} {s : Int} (h : v.kind = 4) (h1 : v.err ≥ 1) : ofVl v s = badS v.err := by
  unfold ofVl; rw [if_neg (by omega), if_neg (by omega), if_neg (fun k => by omega), if_pos ⟨h, h1⟩]
theorem ofVl4a {v : Vl} {s : Int} (h : v.kind = 4) (h1 : ¬ v.err ≥ 1) : ofVl v s = badS 2 := by
  unfold ofVl; rw [if_neg (by omega), if_neg (by omega), if_neg (fun k => by omega), if_neg (fun k => h1 k.2)]
theorem ofVlx {v : Vl} {s : Int} (h0 : ¬ v.kind = 0) (h1 : ¬ v.kind = 1) (h2 : ¬ v.kind = 2) (h3 : ¬ v.kind = 3) (h4 : ¬ v.kind = 4) : ofVl v s = badS 2 := by
  unfold ofVl; rw [if_neg (by omega), if_neg (by omega), if_neg (fun k => by omega), if_neg (fun k => by omega)]
def numV (d : D) : Vl := ⟨1, d, false, ⟨#[]⟩, 0⟩
def errV (e : Int) : Vl := ⟨4, D0, false, ⟨#[]⟩, e⟩
def intD (n : Int) : D := ⟨decide (n < 0), mkN (if n < 0 then - n else n), 0⟩
def aggV (op : Int) (s : Sm) (c : Int) : Vl :=
  if op = 16 then numV (intD s.rows) else if op = 13 then numV (intD s.filled) else if op = 12 ∨ op = 14 ∨ op = 15 then
    if s.err = 0 then
      if op = 12 then (if (narrow s.total c).2 = 0 then numV (narrow s.total c).1 else errV 1)
      else if s.some then (if op = 14 then numV s.min else numV s.max) else errV 4
    else errV s.err
  else errV 2
def wI (x : Int) : Int := IntKind.i64.wrap x
def errJ (a b : Int) : Int := if b ≠ 0 ∧ (a = 0 ∨ b < a) then b else a
def minJ (a b : Sm) : D := if b.some = true ∧ (a.some = false ∨ cmpD b.min a.min < 0) then b.min else a.min
def maxJ (a b : Sm) : D := if b.some = true ∧ (a.some = false ∨ cmpD b.max a.max > 0) then b.max else a.max
def two (a b : Sm) : Sm := ⟨wI (a.rows + b.rows), wI (a.filled + b.filled), wI (a.blank + b.blank), wI (a.bad + b.bad), errJ a.err b.err, mkW (a.total.v + b.total.v), b.some || a.some, minJ a b, maxJ a b⟩
def joinS (l : List Sm) : Sm := l.foldl two Sm0
theorem sm_eq {a b c d e a' b' c' d' e' : Int} {t t' : Wd} {s s' : Bool} {m m' x x' : D} (h1 : a = a') (h2 : b = b') (h3 : c = c') (h4 : d = d') (h5 : e = e') (h6 : t = t') (h7 : s = s') (h8 : m = m') (h9 : x = x') : (⟨a, b, c, d, e, t, s, m, x⟩ : Sm) = ⟨a', b', c', d', e', t', s', m', x'⟩ := by
  subst h1; subst h2; subst h3; subst h4; subst h5; subst h6; subst h7; subst h8; subst h9; rfl
end Go.AM
set_option linter.unusedVariables false
set_option linter.unusedSimpArgs false
set_option maxRecDepth 100000
namespace Go.AM
theorem mul_lt_iff {a b T : Int} (h : 0 < T) : a * T < b * T ↔ a < b := by
  constructor
  · intro k
    rcases (by omega : a < b ∨ b ≤ a) with g | g
    · exact g
    · have := Int.mul_le_mul_of_nonneg_right g (show 0 ≤ T by omega); omega
  · intro k; exact Int.mul_lt_mul_of_pos_right k h
theorem cmpZ_lt (a b : Int) : cmpZ a b < 0 ↔ a < b := by unfold cmpZ; split <;> (try split) <;> omega
theorem cmpZ_gt (a b : Int) : cmpZ a b > 0 ↔ b < a := by unfold cmpZ; split <;> (try split) <;> omega
/-- a number that a summary of scale c may have -/
def DG (c : Int) (d : D) : Prop := d.ok ∧ d.scale = c
theorem cmpD_lt {a b : D} {c : Int} (ha : DG c a) (hb : DG c b) : (cmpD a b < 0) = (a.sv < b.sv) := by
  unfold cmpD D.val
  rw [if_pos ⟨ha.1, hb.1⟩, ha.2, hb.2]
  exact propext ((cmpZ_lt _ _).trans (mul_lt_iff (tenP_pos _)))
theorem cmpD_gt {a b : D} {c : Int} (ha : DG c a) (hb : DG c b) : (cmpD a b > 0) = (b.sv < a.sv) := by
  unfold cmpD D.val
  rw [if_pos ⟨ha.1, hb.1⟩, ha.2, hb.2]
  exact propext ((cmpZ_gt _ _).trans (mul_lt_iff (tenP_pos _)))
structure SG (c : Int) (s : Sm) : Prop where
  rows : I64' s.rows
  filled : I64' s.filled
  blank : I64' s.blank
  bad : I64' s.bad
  none : s.some = false → s.min = D0 ∧ s.max = D0
  min : s.some = true → DG c s.min
  max : s.some = true → DG c s.max
theorem wI_def (x : Int) : wI x = (x + 9223372036854775808) % 18446744073709551616 - 9223372036854775808 := by
  unfold wI IntKind.wrap
  have h1 : IntKind.i64.bits = 64 := rfl
  have h2 : IntKind.i64.signed = true := rfl
  rw [h1, h2]
  simp only [Bool.true_and]
  have e : (2 : Int) ^ 64 = 18446744073709551616 := by decide
  have e2 : (2 : Int) ^ (64 - 1) = 9223372036854775808 := by decide
  simp only [e, e2, decide_eq_true_eq]
  split <;> omega
theorem wI_in (x : Int) : I64' (wI x) := by rw [wI_def]; unfold I64'; omega
theorem wI_id {x : Int} (h : I64' x) : wI x = x := by rw [wI_def]; unfold I64' at h; omega
theorem wI_assoc (a b c : Int) : wI (wI (a + b) + c) = wI (a + wI (b + c)) := by rw [wI_def (a + b), wI_def (b + c), wI_def, wI_def]; omega
theorem errJ_assoc (a b c : Int) : errJ (errJ a b) c = errJ a (errJ b c) := by
  unfold errJ; repeat' split
  all_goals omega
theorem mkW_assoc (a b c : Wd) : mkW ((mkW (a.v + b.v)).v + c.v) = mkW (a.v + (mkW (b.v + c.v)).v) := by
  apply mkW_is; simp only [mkW]; unfold B5; omega
theorem minJ_assoc {c : Int} {x y z : Sm} (hx : SG c x) (hy : SG c y) (hz : SG c z) : minJ (two x y) z = minJ x (two y z) := by
  have xy := fun (h1 : x.some = true) (h2 : y.some = true) => cmpD_lt (hy.min h2) (hx.min h1)
  have xz := fun (h1 : x.some = true) (h2 : z.some = true) => cmpD_lt (hz.min h2) (hx.min h1)
  have yz := fun (h1 : y.some = true) (h2 : z.some = true) => cmpD_lt (hz.min h2) (hy.min h1)
  cases h1 : x.some <;> cases h2 : y.some <;> cases h3 : z.some <;> simp only [h1, h2, h3] at xy xz yz <;> simp [two, minJ, h1, h2, h3]
  · have i1 := Iff.of_eq (xy trivial trivial); have i2 := Iff.of_eq (xz trivial trivial); have i3 := Iff.of_eq (yz trivial trivial)
    repeat' split
    all_goals first | rfl | (exfalso; omega)
theorem maxJ_assoc {c : Int} {x y z : Sm} (hx : SG c x) (hy : SG c y) (hz : SG c z) : maxJ (two x y) z = maxJ x (two y z) := by
  have xy := fun (h1 : x.some = true) (h2 : y.some = true) => cmpD_gt (hy.max h2) (hx.max h1)
  have xz := fun (h1 : x.some = true) (h2 : z.some = true) => cmpD_gt (hz.max h2) (hx.max h1)
  have yz := fun (h1 : y.some = true) (h2 : z.some = true) => cmpD_gt (hz.max h2) (hy.max h1)
  cases h1 : x.some <;> cases h2 : y.some <;> cases h3 : z.some <;> simp only [h1, h2, h3] at xy xz yz <;> simp [two, maxJ, h1, h2, h3]
  · simp only [gt_iff_lt] at xy xz yz
    have i1 := Iff.of_eq (xy trivial trivial); have i2 := Iff.of_eq (xz trivial trivial); have i3 := Iff.of_eq (yz trivial trivial)
    repeat' split
    all_goals first | rfl | (exfalso; omega)
theorem two_assoc {c : Int} {x y z : Sm} (hx : SG c x) (hy : SG c y) (hz : SG c z) : two (two x y) z = two x (two y z) := by
  have h1 := minJ_assoc hx hy hz
  have h2 := maxJ_assoc hx hy hz
  show (⟨_, _, _, _, _, _, _, _, _⟩ : Sm) = ⟨_, _, _, _, _, _, _, _, _⟩
  exact sm_eq (wI_assoc _ _ _) (wI_assoc _ _ _) (wI_assoc _ _ _) (wI_assoc _ _ _) (errJ_assoc _ _ _) (mkW_assoc _ _ _) (by show (z.some || (y.some || x.some)) = ((z.some || y.some) || x.some); rw [Bool.or_assoc]) h1 h2
theorem i64_0 : I64' 0 := by unfold I64'; omega
theorem i64_1 : I64' 1 := by unfold I64'; omega
theorem SG0 (c : Int) : SG c Sm0 := ⟨i64_0, i64_0, i64_0, i64_0, fun _ => ⟨rfl, rfl⟩, fun h => (by cases h), fun h => (by cases h)⟩
theorem two_G {c : Int} {x y : Sm} (hx : SG c x) (hy : SG c y) : SG c (two x y) := by
  refine ⟨wI_in _, wI_in _, wI_in _, wI_in _, fun h => ?_, fun h => ?_, fun h => ?_⟩
  · simp only [two, Bool.or_eq_false_iff] at h
    have := hx.none h.2
    simp [two, minJ, maxJ, h.1, this]
  · simp only [two, Bool.or_eq_true] at h
    simp only [two]; unfold minJ
    split
    · rename_i k; exact hy.min k.1
    · rename_i k
      cases hs : x.some
      · exfalso; simp_all
      · exact hx.min hs
  · simp only [two, Bool.or_eq_true] at h
    simp only [two]; unfold maxJ
    split
    · rename_i k; exact hy.max k.1
    · rename_i k
      cases hs : x.some
      · exfalso; simp_all
      · exact hx.max hs
theorem errJ_0 (a : Int) : errJ 0 a = a ∧ errJ a 0 = a := by unfold errJ; constructor <;> split <;> omega
theorem two_0l {c : Int} {x : Sm} (h : SG c x) : two Sm0 x = x := by
  have hn := h.none
  obtain ⟨r, f, b, bd, e, t, s, m, M⟩ := x
  simp only at hn
  refine sm_eq ?_ ?_ ?_ ?_ (errJ_0 _).1 ?_ (by simp [Sm0]) ?_ ?_
  · simp only [Sm0, Int.zero_add]; exact wI_id h.rows
  · simp only [Sm0, Int.zero_add]; exact wI_id h.filled
  · simp only [Sm0, Int.zero_add]; exact wI_id h.blank
  · simp only [Sm0, Int.zero_add]; exact wI_id h.bad
  · simp only [Sm0, Wd0, Int.zero_add]; exact mkW_val t
  · cases s <;> simp_all [minJ, Sm0]
  · cases s <;> simp_all [maxJ, Sm0]
theorem two_0r {c : Int} {x : Sm} (h : SG c x) : two x Sm0 = x := by
  obtain ⟨r, f, b, bd, e, t, s, m, M⟩ := x
  refine sm_eq ?_ ?_ ?_ ?_ (errJ_0 _).2 ?_ (by simp [Sm0]) (by simp [minJ, Sm0]) (by simp [maxJ, Sm0])
  · simp only [Sm0, Int.add_zero]; exact wI_id h.rows
  · simp only [Sm0, Int.add_zero]; exact wI_id h.filled
  · simp only [Sm0, Int.add_zero]; exact wI_id h.blank
  · simp only [Sm0, Int.add_zero]; exact wI_id h.bad
  · simp only [Sm0, Wd0, Int.add_zero]; exact mkW_val t
theorem foldl_G {c : Int} : ∀ {l : List Sm} {a : Sm}, SG c a → (∀ x ∈ l, SG c x) → SG c (l.foldl two a)
  | [], _, ha, _ => ha
  | x :: l, _, ha, h => foldl_G (l := l) (two_G ha (h x (List.mem_cons_self ..))) (fun y hy => h y (List.mem_cons_of_mem _ hy))
theorem foldl_two {c : Int} : ∀ {l : List Sm} {a : Sm}, SG c a → (∀ x ∈ l, SG c x) → l.foldl two a = two a (joinS l)
  | [], a, ha, _ => (two_0r ha).symm
  | x :: l, a, ha, h => by
    have hx := h x (List.mem_cons_self ..)
    have hl := fun y hy => h y (List.mem_cons_of_mem _ hy)
    have hj : SG c (joinS l) := foldl_G (SG0 c) hl
    show l.foldl two (two a x) = two a (l.foldl two (two Sm0 x))
    rw [two_0l hx, foldl_two (two_G ha hx) hl, foldl_two hx hl, two_assoc ha hx hj]
theorem joinS_G {c : Int} {l : List Sm} (h : ∀ x ∈ l, SG c x) : SG c (joinS l) := foldl_G (SG0 c) h
theorem joinS_append {c : Int} {l m : List Sm} (hl : ∀ x ∈ l, SG c x) (hm : ∀ x ∈ m, SG c x) : joinS (l ++ m) = two (joinS l) (joinS m) := by
  show (l ++ m).foldl two Sm0 = _
  rw [List.foldl_append]
  exact foldl_two (joinS_G hl) hm
theorem joinS_two {c : Int} {x y : Sm} (hx : SG c x) : joinS [x, y] = two x y := by
  show two (two Sm0 x) y = _
  rw [two_0l hx]
theorem SG_of (v : Vl) (c : Int) : SG c (ofVl v c) := by
  unfold ofVl
  split
  · exact ⟨i64_1, i64_0, i64_1, i64_0, fun _ => ⟨rfl, rfl⟩, fun h => (by cases h), fun h => (by cases h)⟩
  split
  · exact ⟨i64_1, i64_1, i64_0, i64_0, fun _ => ⟨rfl, rfl⟩, fun h => (by cases h), fun h => (by cases h)⟩
  split
  · rename_i h; exact ⟨i64_1, i64_1, i64_0, i64_0, fun h => (by cases h), fun _ => ⟨h.2.1, h.2.2⟩, fun _ => ⟨h.2.1, h.2.2⟩⟩
  split
  · exact ⟨i64_1, i64_0, i64_0, i64_1, fun _ => ⟨rfl, rfl⟩, fun h => (by cases h), fun h => (by cases h)⟩
  · exact ⟨i64_1, i64_0, i64_0, i64_1, fun _ => ⟨rfl, rfl⟩, fun h => (by cases h), fun h => (by cases h)⟩
theorem joinS_mid {c : Int} {x : Sm} (hx : SG c x) : joinS [Sm0, x, Sm0] = x := by
  show two (two (two Sm0 Sm0) x) Sm0 = x
  rw [two_0l (SG0 c), two_0l hx, two_0r hx]
/-- a slice's elements -/
def ExtL {α : Type} (enc : α → List Val) (n : Nat) (g : Nat → List Val) (l : List α) : Prop := l.length = n ∧ ∀ i (h : i < l.length), g i = enc l[i]
theorem ExtL.take {α : Type} {enc : α → List Val} {n k : Nat} {g : Nat → List Val} {l : List α} (h : ExtL enc n g l) (hk : k ≤ n) : ExtL enc (k - 0) (fun i => g (i + 0)) (l.take k) := by
  obtain ⟨rfl, h⟩ := h
  refine ⟨by rw [List.length_take]; omega, fun i hi => ?_⟩
  rw [List.length_take] at hi
  rw [List.getElem_take]
  exact h i (by omega)
theorem ExtL.drop {α : Type} {enc : α → List Val} {n k : Nat} {g : Nat → List Val} {l : List α} (h : ExtL enc n g l) : ExtL enc (n - k) (fun i => g (i + k)) (l.drop k) := by
  obtain ⟨rfl, h⟩ := h
  refine ⟨by rw [List.length_drop], fun i hi => ?_⟩
  rw [List.length_drop] at hi
  rw [List.getElem_drop]
  show g (i + k) = _
  rw [h (i + k) (by omega)]
  congr 2; omega
end Go.AM
set_option linter.unusedVariables false
set_option linter.unusedSimpArgs false
set_option maxRecDepth 100000
namespace Go.AM
def sumT : List Sm → Int
  | [] => 0
  | x :: l => x.total.v + sumT l
theorem sumT_append : ∀ (l m : List Sm), sumT (l ++ m) = sumT l + sumT m
  | [], m => by simp [sumT]
  | x :: l, m => by simp only [List.cons_append, sumT, sumT_append l m]; omega
theorem foldl_total : ∀ (l : List Sm) (a : Sm), (l.foldl two a).total = mkW (a.total.v + sumT l)
  | [], a => by simp only [sumT, Int.add_zero]; exact (mkW_val _).symm
  | x :: l, a => by
    show (l.foldl two (two a x)).total = _
    rw [foldl_total l (two a x)]
    show mkW ((mkW (a.total.v + x.total.v)).v + sumT l) = mkW (a.total.v + (x.total.v + sumT l))
    apply mkW_is; simp only [mkW]; unfold B5; omega
theorem joinS_total (l : List Sm) : (joinS l).total = mkW (sumT l) := by
  show (l.foldl two Sm0).total = _
  rw [foldl_total]
  show mkW (0 + sumT l) = _
  rw [Int.zero_add]
def negD (d : D) : D := ⟨!d.neg, d.n, d.scale⟩
theorem widen_neg (d : D) : ((widen d).v + (widen (negD d)).v) % B5 = 0 := by
  have := d.n.h
  unfold widen negD mkW
  cases d.neg <;> simp <;> unfold B5 <;> omega
theorem narrow_widen {d : D} (h : d.ok) : narrow (widen d) d.scale = (d, 0) := by
  obtain ⟨h1, h2, h3⟩ := h
  have hn := d.n.h
  unfold W B4 at hn
  have hv : (widen d).v = (if d.neg = true then - d.n.v else d.n.v) % B5 := rfl
  by_cases hd : d.neg = true
  · have hz : d.n.v ≠ 0 := fun e => h3 ⟨hd, N.eq e⟩
    rw [if_pos hd] at hv
    have ev : (widen d).v = B5 - d.n.v := by rw [hv]; unfold B5; omega
    have ht : topW (widen d) = true := by unfold topW; rw [ev]; unfold B5; exact decide_eq_true (by omega)
    have ha : absW (widen d) = wneg (widen d) := by unfold absW; rw [if_pos ht]
    have hw : (wneg (widen d)).v = d.n.v := by
      show (- (widen d).v) % B5 = _
      rw [ev]; unfold B5; omega
    unfold narrow
    rw [if_neg (by omega), ha, hw, if_neg (by unfold B4; omega), ht, mkN_val]
    obtain ⟨b, n, s⟩ := d
    simp only at hd
    rw [hd]
  · rw [if_neg hd] at hv
    have ev : (widen d).v = d.n.v := by rw [hv]; unfold B5; omega
    have ht : topW (widen d) = false := by unfold topW; rw [ev]; exact decide_eq_false (by omega)
    have ha : absW (widen d) = widen d := by unfold absW; rw [if_neg (by rw [ht]; decide)]
    unfold narrow
    rw [if_neg (by omega), ha, ev, if_neg (by unfold B4; omega), ht, mkN_val]
    obtain ⟨b, n, s⟩ := d
    simp only [Bool.not_eq_true] at hd
    rw [hd]
theorem of_filled {x : D} {s : Int} (h : (ofVl (numV x) s).filled = 1) : x.ok ∧ x.scale = s ∧ ofVl (numV x) s = numS x := by
  by_cases k : x.ok ∧ x.scale = s
  · exact ⟨k.1, k.2, ofVl1 rfl (check_ok k.1) k.2⟩
  · exfalso
    have e : ofVl (numV x) s = badS 2 := by
      by_cases k1 : x.ok
      · exact ofVl1b rfl (fun e => k ⟨k1, e⟩)
      · exact ofVl1a rfl (fun e => k1 (check_zero.1 e))
    rw [e] at h
    cases h
def oneS (s : Sm) : Nat → List Val := fun i => (pieces 23 1 (cS s)).getD i []
theorem ExtL.one (s : Sm) : ExtL cS 1 (oneS s) [s] := ⟨rfl, fun i h => match i, h with | 0, _ => rfl⟩
theorem ExtL.snoc {n : Nat} {g : Nat → List Val} {l : List Sm} (h : ExtL cS n g l) (s : Sm) : ExtL cS (n + 1) (fun i => if i < n then g i else oneS s (i - n)) (l ++ [s]) := by
  obtain ⟨rfl, h⟩ := h
  refine ⟨by simp, fun i hi => ?_⟩
  rw [List.length_append, List.length_singleton] at hi
  show (if i < l.length then g i else oneS s (i - l.length)) = _
  split
  · rename_i k; rw [List.getElem_append_left k]; exact h i k
  · rename_i k
    obtain rfl : i = l.length := by omega
    rw [List.getElem_append_right (by omega)]
    simp only [Nat.sub_self, List.getElem_cons_zero]
    rfl
theorem ExtL.cons {n : Nat} {g : Nat → List Val} {l : List Sm} (h : ExtL cS n g l) (s : Sm) : ExtL cS (1 + n) (fun i => if i < 1 then oneS s i else g (i - 1)) (s :: l) := by
  obtain ⟨rfl, h⟩ := h
  refine ⟨by simp; omega, fun i hi => ?_⟩
  rw [List.length_cons] at hi
  match i with
  | 0 => rfl
  | i + 1 => exact h i (by omega)
theorem exact_step {L : List Sm} {x : D} (h : sumT L % B5 = 0) : sumT (numS (negD x) :: (L ++ [numS x])) % B5 = 0 := by
  have := widen_neg x
  simp only [sumT, sumT_append]
  show ((widen (negD x)).v + (sumT L + ((widen x).v + 0))) % B5 = 0
  unfold B5 at *; omega
theorem exact_end {L : List Sm} {d : D} (h : sumT L % B5 = 0) : (joinS (L ++ [numS d])).total = widen d := by
  rw [joinS_total, sumT_append]
  have : (numS d).total = widen d := rfl
  simp only [sumT]
  rw [this, ← mkW_val (widen d)]
  apply mkW_is
  rw [mkW_val]
  unfold B5 at *; omega
end Go.AM
