/- Wide numbers: 320 bits. -/
import Derived.Test.YtafiechoplbieaaAmGU
set_option linter.unusedVariables false
set_option linter.unusedSimpArgs false
set_option maxRecDepth 100000
namespace Go.AM
/-- 2^320 -/
abbrev B5 : Int := 2135987035920910082395021706169552114602704522356652769947041607822219725780640550022962086936576
structure Wd where
  v : Int
  h : 0 ≤ v ∧ v < B5
theorem Wd.eq {a b : Wd} (h : a.v = b.v) : a = b := by
  cases a; cases b; simp only at h; subst h; rfl
instance : DecidableEq Wd := fun a b => if h : a.v = b.v then .isTrue (Wd.eq h) else .isFalse fun e => h (by rw [e])
def mkW (x : Int) : Wd := ⟨x % B5, by unfold B5; omega⟩
theorem mkW_v {x : Int} (h : 0 ≤ x ∧ x < B5) : (mkW x).v = x := Int.emod_eq_of_lt h.1 h.2
theorem mkW_val (a : Wd) : mkW a.v = a := Wd.eq (mkW_v a.h)
def Wd0 : Wd := ⟨0, by decide⟩
def m0 (a : Wd) : Int := a.v % 18446744073709551616
def m1 (a : Wd) : Int := a.v / 18446744073709551616 % 18446744073709551616
def m2 (a : Wd) : Int := a.v / 18446744073709551616 / 18446744073709551616 % 18446744073709551616
def m3 (a : Wd) : Int := a.v / 18446744073709551616 / 18446744073709551616 / 18446744073709551616 % 18446744073709551616
def m4 (a : Wd) : Int := a.v / 18446744073709551616 / 18446744073709551616 / 18446744073709551616 / 18446744073709551616 % 18446744073709551616
theorem m0_U (a : Wd) : U (m0 a) := by unfold U m0; omega
theorem m1_U (a : Wd) : U (m1 a) := by unfold U m1; omega
theorem m2_U (a : Wd) : U (m2 a) := by unfold U m2; omega
theorem m3_U (a : Wd) : U (m3 a) := by unfold U m3; omega
theorem m4_U (a : Wd) : U (m4 a) := by unfold U m4; omega
def cWd (a : Wd) : List Val := [.int .u64 (m0 a), .int .u64 (m1 a), .int .u64 (m2 a), .int .u64 (m3 a), .int .u64 (m4 a)]
def eWd (a : Wd) : Val := .agg (cWd a)
def val5 (x0 x1 x2 x3 x4 : Int) : Int := x0 + 18446744073709551616 * (x1 + 18446744073709551616 * (x2 + 18446744073709551616 * (x3 + 18446744073709551616 * x4)))
theorem wlimbs_v (a : Wd) : a.v = val5 (m0 a) (m1 a) (m2 a) (m3 a) (m4 a) := by
  obtain ⟨v, h0, h1⟩ := a
  unfold B5 at h1
  unfold val5 m0 m1 m2 m3 m4
  simp only
  have h3 : 0 ≤ v / 18446744073709551616 := by omega
  have h2 : v / 18446744073709551616 < 115792089237316195423570985008687907853269984665640564039457584007913129639936 := by omega
  generalize hm : v / 18446744073709551616 = m at *
  have h4 : m / 18446744073709551616 < 6277101735386680763835789423207666416102355444464034512896 := by omega
  have h5 : 0 ≤ m / 18446744073709551616 := by omega
  generalize hk : m / 18446744073709551616 = k at *
  have h6 : k / 18446744073709551616 < 340282366920938463463374607431768211456 := by omega
  have h7 : 0 ≤ k / 18446744073709551616 := by omega
  generalize hj : k / 18446744073709551616 = j at *
  omega
def ofW (x0 x1 x2 x3 x4 : Int) : Wd := mkW (val5 x0 x1 x2 x3 x4)
theorem val5_lt {x0 x1 x2 x3 x4 : Int} (h0 : U x0) (h1 : U x1) (h2 : U x2) (h3 : U x3) (h4 : U x4) : 0 ≤ val5 x0 x1 x2 x3 x4 ∧ val5 x0 x1 x2 x3 x4 < B5 := by
  unfold U at *; unfold val5 B5; omega
theorem ofW_m {x0 x1 x2 x3 x4 : Int} (h0 : U x0) (h1 : U x1) (h2 : U x2) (h3 : U x3) (h4 : U x4) : m0 (ofW x0 x1 x2 x3 x4) = x0 ∧ m1 (ofW x0 x1 x2 x3 x4) = x1 ∧ m2 (ofW x0 x1 x2 x3 x4) = x2 ∧ m3 (ofW x0 x1 x2 x3 x4) = x3 ∧ m4 (ofW x0 x1 x2 x3 x4) = x4 := by
  have hv : (ofW x0 x1 x2 x3 x4).v = val5 x0 x1 x2 x3 x4 := mkW_v (val5_lt h0 h1 h2 h3 h4)
  unfold m0 m1 m2 m3 m4
  rw [hv]
  unfold val5
  rw [(div_limb h0).1, (div_limb h0).2, (div_limb h1).1, (div_limb h1).2, (div_limb h2).1, (div_limb h2).2, (div_limb h3).1, (div_limb h3).2]
  unfold U at h4
  rw [Int.emod_eq_of_lt h4.1 h4.2]
  exact ⟨rfl, rfl, rfl, rfl, rfl⟩
theorem ofW_agg {x0 x1 x2 x3 x4 : Int} (h0 : U x0) (h1 : U x1) (h2 : U x2) (h3 : U x3) (h4 : U x4) : Val.agg [.int .u64 x0, .int .u64 x1, .int .u64 x2, .int .u64 x3, .int .u64 x4] = eWd (ofW x0 x1 x2 x3 x4) := by
  have h := ofW_m h0 h1 h2 h3 h4
  unfold eWd cWd
  rw [h.1, h.2.1, h.2.2.1, h.2.2.2.1, h.2.2.2.2]
theorem eWd_is {n x0 x1 x2 x3 x4 : Int} (h0 : U x0) (h1 : U x1) (h2 : U x2) (h3 : U x3) (h4 : U x4) (e : n % B5 = val5 x0 x1 x2 x3 x4) : Val.agg [.int .u64 x0, .int .u64 x1, .int .u64 x2, .int .u64 x3, .int .u64 x4] = eWd (mkW n) := by
  rw [ofW_agg h0 h1 h2 h3 h4]
  congr 1
  apply Wd.eq
  rw [ofW, mkW_v (val5_lt h0 h1 h2 h3 h4), ← e]; rfl
theorem U_mod (x : Int) : U (x % 18446744073709551616) := by unfold U; omega
theorem mkW_is {x y : Int} (h : (x - y) % B5 = 0) : mkW x = mkW y := Wd.eq (by unfold mkW; exact Int.emod_eq_emod_iff_emod_sub_eq_zero.2 h)
def wneg (w : Wd) : Wd := mkW (- w.v)
/-- wide of a decimal -/
def widen (d : D) : Wd := mkW (if d.neg then - d.n.v else d.n.v)
def topW (w : Wd) : Bool := decide (1067993517960455041197510853084776057301352261178326384973520803911109862890320275011481043468288 ≤ w.v)
def absW (w : Wd) : Wd := if topW w then wneg w else w
def narrow (w : Wd) (s : Int) : D × Int := if s < 0 ∨ 18 < s then (D0, 1) else if B4 ≤ (absW w).v then (D0, 7) else (⟨topW w, mkN (absW w).v, s⟩, 0)
end Go.AM

set_option linter.unusedVariables false
set_option linter.unusedSimpArgs false
set_option maxRecDepth 100000
namespace Go.AM
structure Vl where
  kind : Int
  num : D
  flag : Bool
  text : ByteArray
  err : Int
  deriving DecidableEq
def Vl0 : Vl := ⟨0, D0, false, ⟨#[]⟩, 0⟩
def cV (v : Vl) : List Val := [.int .i64 v.kind, .bool v.num.neg, .int .u64 (l0 v.num.n), .int .u64 (l1 v.num.n), .int .u64 (l2 v.num.n), .int .u64 (l3 v.num.n), .int .i64 v.num.scale, .bool v.flag, .str v.text, .int .i64 v.err]
def eV (v : Vl) : Val := .agg (cV v)
structure Sm where
  rows : Int
  filled : Int
  blank : Int
  bad : Int
  err : Int
  total : Wd
  some : Bool
  min : D
  max : D
def Sm0 : Sm := ⟨0, 0, 0, 0, 0, Wd0, false, D0, D0⟩
def cS (s : Sm) : List Val := [.int .i64 s.rows, .int .i64 s.filled, .int .i64 s.blank, .int .i64 s.bad, .int .i64 s.err, .int .u64 (m0 s.total), .int .u64 (m1 s.total), .int .u64 (m2 s.total), .int .u64 (m3 s.total), .int .u64 (m4 s.total), .bool s.some,
  .bool s.min.neg, .int .u64 (l0 s.min.n), .int .u64 (l1 s.min.n), .int .u64 (l2 s.min.n), .int .u64 (l3 s.min.n), .int .i64 s.min.scale,
  .bool s.max.neg, .int .u64 (l0 s.max.n), .int .u64 (l1 s.max.n), .int .u64 (l2 s.max.n), .int .u64 (l3 s.max.n), .int .i64 s.max.scale]
def eS (s : Sm) : Val := .agg (cS s)
def badS (e : Int) : Sm := ⟨1, 0, 0, 1, e, Wd0, false, D0, D0⟩
def numS (d : D) : Sm := ⟨1, 1, 0, 0, 0, widen d, true, d, d⟩
def blankS : Sm := ⟨1, 0, 1, 0, 0, Wd0, false, D0, D0⟩
def fullS : Sm := ⟨1, 1, 0, 0, 0, Wd0, false, D0, D0⟩
def ofVl (v : Vl) (s : Int) : Sm :=
  if v.kind = 0 then blankS else if v.kind = 2 ∨ v.kind = 3 then fullS else if v.kind = 1 ∧ v.num.ok ∧ v.num.scale = s then numS v.num
  else if v.kind = 4 ∧ 1 ≤ v.err then badS v.err else badS 2
theorem check_zero {d : D} : check d = 0 ↔ d.ok := by
  constructor
  · intro h
    by_cases k : d.ok
    · exact k
    · rw [check_bad k] at h; omega
  · exact check_ok
theorem ofVl0 {v : Vl} {s : Int} (h : v.kind = 0) : ofVl v s = blankS := if_pos h
theorem ofVl2 {v : Vl} {s : Int} (h : v.kind = 2 ∨ v.kind = 3) : ofVl v s = fullS := by unfold ofVl; rw [if_neg (by omega), if_pos h]
theorem ofVl1 {v : Vl} {s : Int} (h : v.kind = 1) (h1 : check v.num = 0) (h2 : v.num.scale = s) : ofVl v s = numS v.num := by
  unfold ofVl; rw [if_neg (by omega), if_neg (by omega), if_pos ⟨h, check_zero.1 h1, h2⟩]
theorem ofVl1a {v : Vl} {s : Int} (h : v.kind = 1) (h1 : ¬ check v.num = 0) : ofVl v s = badS 2 := by
  unfold ofVl; rw [if_neg (by omega), if_neg (by omega), if_neg (fun k => h1 (check_zero.2 k.2.1)), if_neg (by omega)]
theorem ofVl1b {v : Vl} {s : Int} (h : v.kind = 1) (h1 : ¬ v.num.scale = s) : ofVl v s = badS 2 := by
  unfold ofVl; rw [if_neg (by omega), if_neg (by omega), if_neg (fun k => h1 k.2.2), if_neg (by omega)]
theorem ofVl4 {v : Vl} {s : Int} (h : v.kind = 4) (h1 : v.err ≥ 1) : ofVl v s = badS v.err := by
  unfold ofVl; rw [if_neg (by omega), if_neg (by omega), if_neg (fun k => by omega), if_pos ⟨h, h1⟩]
theorem ofVl4a {v : Vl} {s : Int} (h : v.kind = 4) (h1 : ¬ v.err ≥ 1) : ofVl v s = badS 2 := by
  unfold ofVl; rw [if_neg (by omega), if_neg (by omega), if_neg (fun k => by omega), if_neg (fun k => h1 k.2)]
theorem ofVlx {v : Vl} {s : Int} (h0 : ¬ v.kind = 0) (h1 : ¬ v.kind = 1) (h2 : ¬ v.kind = 2) (h3 : ¬ v.kind = 3) (h4 : ¬ v.kind = 4) : ofVl v s = badS 2 := by
  unfold ofVl; rw [if_neg (by omega), if_neg (by omega), if_neg (fun k => by omega), if_neg (fun k => by omega)]
def numV (d : D) : Vl := ⟨1, d, false, ⟨#[]⟩, 0⟩
def errV (e : Int) : Vl := ⟨4, D0, false, ⟨#[]⟩, e⟩
def intD (n : Int) : D := ⟨decide (n < 0), mkN (if n < 0 then - n else n), 0⟩
def aggV (op : Int) (s : Sm) (c : Int) : Vl :=
  if op = 16 then numV (intD s.rows) else if op = 13 then numV (intD s.filled) else if op = 12 ∨ op = 14 ∨ op = 15 then
    if s.err = 0 then
      if op = 12 then (if (narrow s.total c).2 = 0 then numV (narrow s.total c).1 else errV 1)
      else if s.some then (if op = 14 then numV s.min else numV s.max) else errV 4
    else errV s.err
  else errV 2
def wI (x : Int) : Int := IntKind.i64.wrap x
def errJ (a b : Int) : Int := if b ≠ 0 ∧ (a = 0 ∨ b < a) then b else a
def minJ (a b : Sm) : D := if b.some = true ∧ (a.some = false ∨ cmpD b.min a.min < 0) then b.min else a.min
def maxJ (a b : Sm) : D := if b.some = true ∧ (a.some = false ∨ cmpD b.max a.max > 0) then b.max else a.max
def two (a b : Sm) : Sm := ⟨wI (a.rows + b.rows), wI (a.filled + b.filled), wI (a.blank + b.blank), wI (a.bad + b.bad), errJ a.err b.err, mkW (a.total.v + b.total.v), b.some || a.some, minJ a b, maxJ a b⟩
def joinS (l : List Sm) : Sm := l.foldl two Sm0
theorem sm_eq {a b c d e a' b' c' d' e' : Int} {t t' : Wd} {s s' : Bool} {m m' x x' : D} (h1 : a = a') (h2 : b = b') (h3 : c = c') (h4 : d = d') (h5 : e = e') (h6 : t = t') (h7 : s = s') (h8 : m = m') (h9 : x = x') : (⟨a, b, c, d, e, t, s, m, x⟩ : Sm) = ⟨a', b', c', d', e', t', s', m', x'⟩ := by
  subst h1; subst h2; subst h3; subst h4; subst h5; subst h6; subst h7; subst h8; subst h9; rfl
end Go.AM

set_option linter.unusedVariables false
set_option linter.unusedSimpArgs false
set_option maxRecDepth 100000
namespace Go.AM
theorem mul_lt_iff {a b T : Int} (h : 0 < T) : a * T < b * T ↔ a < b := by
  constructor
  · intro k
    rcases (by omega : a < b ∨ b ≤ a) with g | g
    · exact g
    · have := Int.mul_le_mul_of_nonneg_right g (show 0 ≤ T by omega); omega
  · intro k; exact Int.mul_lt_mul_of_pos_right k h
theorem cmpZ_lt (a b : Int) : cmpZ a b < 0 ↔ a < b := by unfold cmpZ; split <;> (try split) <;> omega
theorem cmpZ_gt (a b : Int) : cmpZ a b > 0 ↔ b < a := by unfold cmpZ; split <;> (try split) <;> omega
/-- a number that a summary of scale c may have -/
def DG (c : Int) (d : D) : Prop := d.ok ∧ d.scale = c
theorem cmpD_lt {a b : D} {c : Int} (ha : DG c a) (hb : DG c b) : (cmpD a b < 0) = (a.sv < b.sv) := by
  unfold cmpD D.val
  rw [if_pos ⟨ha.1, hb.1⟩, ha.2, hb.2]
  exact propext ((cmpZ_lt _ _).trans (mul_lt_iff (tenP_pos _)))
theorem cmpD_gt {a b : D} {c : Int} (ha : DG c a) (hb : DG c b) : (cmpD a b > 0) = (b.sv < a.sv) := by
  unfold cmpD D.val
  rw [if_pos ⟨ha.1, hb.1⟩, ha.2, hb.2]
  exact propext ((cmpZ_gt _ _).trans (mul_lt_iff (tenP_pos _)))
structure SG (c : Int) (s : Sm) : Prop where
  rows : I64' s.rows
  filled : I64' s.filled
  blank : I64' s.blank
  bad : I64' s.bad
  none : s.some = false → s.min = D0 ∧ s.max = D0
  min : s.some = true → DG c s.min
  max : s.some = true → DG c s.max
theorem wI_def (x : Int) : wI x = (x + 9223372036854775808) % 18446744073709551616 - 9223372036854775808 := by
  unfold wI IntKind.wrap
  have h1 : IntKind.i64.bits = 64 := rfl
  have h2 : IntKind.i64.signed = true := rfl
  rw [h1, h2]
  simp only [Bool.true_and]
  have e : (2 : Int) ^ 64 = 18446744073709551616 := by decide
  have e2 : (2 : Int) ^ (64 - 1) = 9223372036854775808 := by decide
  simp only [e, e2, decide_eq_true_eq]
  split <;> omega
theorem wI_in (x : Int) : I64' (wI x) := by rw [wI_def]; unfold I64'; omega
theorem wI_id {x : Int} (h : I64' x) : wI x = x := by rw [wI_def]; unfold I64' at h; omega
theorem wI_assoc (a b c : Int) : wI (wI (a + b) + c) = wI (a + wI (b + c)) := by rw [wI_def (a + b), wI_def (b + c), wI_def, wI_def]; omega
theorem errJ_assoc (a b c : Int) : errJ (errJ a b) c = errJ a (errJ b c) := by
  unfold errJ; repeat' split
  all_goals omega
theorem mkW_assoc (a b c : Wd) : mkW ((mkW (a.v + b.v)).v + c.v) = mkW (a.v + (mkW (b.v + c.v)).v) := by
  apply mkW_is; simp only [mkW]; unfold B5; omega
theorem minJ_assoc {c : Int} {x y z : Sm} (hx : SG c x) (hy : SG c y) (hz : SG c z) : minJ (two x y) z = minJ x (two y z) := by
  have xy := fun (h1 : x.some = true) (h2 : y.some = true) => cmpD_lt (hy.min h2) (hx.min h1)
  have xz := fun (h1 : x.some = true) (h2 : z.some = true) => cmpD_lt (hz.min h2) (hx.min h1)
  have yz := fun (h1 : y.some = true) (h2 : z.some = true) => cmpD_lt (hz.min h2) (hy.min h1)
  cases h1 : x.some <;> cases h2 : y.some <;> cases h3 : z.some <;> simp only [h1, h2, h3] at xy xz yz <;> simp [two, minJ, h1, h2, h3]
  · have i1 := Iff.of_eq (xy trivial trivial); have i2 := Iff.of_eq (xz trivial trivial); have i3 := Iff.of_eq (yz trivial trivial)
    repeat' split
    all_goals first | rfl | (exfalso; omega)
theorem maxJ_assoc {c : Int} {x y z : Sm} (hx : SG c x) (hy : SG c y) (hz : SG c z) : maxJ (two x y) z = maxJ x (two y z) := by
  have xy := fun (h1 : x.some = true) (h2 : y.some = true) => cmpD_gt (hy.max h2) (hx.max h1)
  have xz := fun (h1 : x.some = true) (h2 : z.some = true) => cmpD_gt (hz.max h2) (hx.max h1)
  have yz := fun (h1 : y.some = true) (h2 : z.some = true) => cmpD_gt (hz.max h2) (hy.max h1)
  cases h1 : x.some <;> cases h2 : y.some <;> cases h3 : z.some <;> simp only [h1, h2, h3] at xy xz yz <;> simp [two, maxJ, h1, h2, h3]
  · simp only [gt_iff_lt] at xy xz yz
    have i1 := Iff.of_eq (xy trivial trivial); have i2 := Iff.of_eq (xz trivial trivial); have i3 := Iff.of_eq (yz trivial trivial)
    repeat' split
    all_goals first | rfl | (exfalso; omega)
theorem two_assoc {c : Int} {x y z : Sm} (hx : SG c x) (hy : SG c y) (hz : SG c z) : two (two x y) z = two x (two y z) := by
  have h1 := minJ_assoc hx hy hz
  have h2 := maxJ_assoc hx hy hz
  show (⟨_, _, _, _, _, _, _, _, _⟩ : Sm) = ⟨_, _, _, _, _, _, _, _, _⟩
  exact sm_eq (wI_assoc _ _ _) (wI_assoc _ _ _) (wI_assoc _ _ _) (wI_assoc _ _ _) (errJ_assoc _ _ _) (mkW_assoc _ _ _) (by show (z.some || (y.some || x.some)) = ((z.some || y.some) || x.some); rw [Bool.or_assoc]) h1 h2
theorem i64_0 : I64' 0 := by unfold I64'; omega
theorem i64_1 : I64' 1 := by unfold I64'; omega
theorem SG0 (c : Int) : SG c Sm0 := ⟨i64_0, i64_0, i64_0, i64_0, fun _ => ⟨rfl, rfl⟩, fun h => (by cases h), fun h => (by cases h)⟩
theorem two_G {c : Int} {x y : Sm} (hx : SG c x) (hy : SG c y) : SG c (two x y) := by
  refine ⟨wI_in _, wI_in _, wI_in _, wI_in _, fun h => ?_, fun h => ?_, fun h => ?_⟩
  · simp only [two, Bool.or_eq_false_iff] at h
    have := hx.none h.2
    simp [two, minJ, maxJ, h.1, this]
  · simp only [two, Bool.or_eq_true] at h
    simp only [two]; unfold minJ
    split
    · rename_i k; exact hy.min k.1
    · rename_i k
      cases hs : x.some
      · exfalso; simp_all
      · exact hx.min hs
  · simp only [two, Bool.or_eq_true] at h
    simp only [two]; unfold maxJ
    split
    · rename_i k; exact hy.max k.1
    · rename_i k
      cases hs : x.some
      · exfalso; simp_all
      · exact hx.max hs
theorem errJ_0 (a : Int) : errJ 0 a = a ∧ errJ a 0 = a := by unfold errJ; constructor <;> split <;> omega
theorem two_0l {c : Int} {x : Sm} (h : SG c x) : two Sm0 x = x := by
  have hn := h.none
  obtain ⟨r, f, b, bd, e, t, s, m, M⟩ := x
  simp only at hn
  refine sm_eq ?_ ?_ ?_ ?_ (errJ_0 _).1 ?_ (by simp [Sm0]) ?_ ?_
  · simp only [Sm0, Int.zero_add]; exact wI_id h.rows
  · simp only [Sm0, Int.zero_add]; exact wI_id h.filled
  · simp only [Sm0, Int.zero_add]; exact wI_id h.blank
  · simp only [Sm0, Int.zero_add]; exact wI_id h.bad
  · simp only [Sm0, Wd0, Int.zero_add]; exact mkW_val t
  · cases s <;> simp_all [minJ, Sm0]
  · cases s <;> simp_all [maxJ, Sm0]
theorem two_0r {c : Int} {x : Sm} (h : SG c x) : two x Sm0 = x := by
  obtain ⟨r, f, b, bd, e, t, s, m, M⟩ := x
  refine sm_eq ?_ ?_ ?_ ?_ (errJ_0 _).2 ?_ (by simp [Sm0]) (by simp [minJ, Sm0]) (by simp [maxJ, Sm0])
  · simp only [Sm0, Int.add_zero]; exact wI_id h.rows
  · simp only [Sm0, Int.add_zero]; exact wI_id h.filled
  · simp only [Sm0, Int.add_zero]; exact wI_id h.blank
  · simp only [Sm0, Int.add_zero]; exact wI_id h.bad
  · simp only [Sm0, Wd0, Int.add_zero]; exact mkW_val t
theorem foldl_G {c : Int} : ∀ {l : List Sm} {a : Sm}, SG c a → (∀ x ∈ l, SG c x) → SG c (l.foldl two a)
  | [], _, ha, _ => ha
  | x :: l, _, ha, h => foldl_G (l := l) (two_G ha (h x (List.mem_cons_self ..))) (fun y hy => h y (List.mem_cons_of_mem _ hy))
theorem foldl_two {c : Int} : ∀ {l : List Sm} {a : Sm}, SG c a → (∀ x ∈ l, SG c x) → l.foldl two a = two a (joinS l)
  | [], a, ha, _ => (two_0r ha).symm
  | x :: l, a, ha, h => by
    have hx := h x (List.mem_cons_self ..)
    have hl := fun y hy => h y (List.mem_cons_of_mem _ hy)
    have hj : SG c (joinS l) := foldl_G (SG0 c) hl
    show l.foldl two (two a x) = two a (l.foldl two (two Sm0 x))
    rw [two_0l hx, foldl_two (two_G ha hx) hl, foldl_two hx hl, two_assoc ha hx hj]
theorem joinS_G {c : Int} {l : List Sm} (h : ∀ x ∈ l, SG c x) : SG c (joinS l) := foldl_G (SG0 c) h
theorem joinS_append {c : Int} {l m : List Sm} (hl : ∀ x ∈ l, SG c x) (hm : ∀ x ∈ m, SG c x) : joinS (l ++ m) = two (joinS l) (joinS m) := by
  show (l ++ m).foldl two Sm0 = _
  rw [List.foldl_append]
  exact foldl_two (joinS_G hl) hm
theorem SG_of (v : Vl) (c : Int) : SG c (ofVl v c) := by
  unfold ofVl
  split
  · exact ⟨i64_1, i64_0, i64_1, i64_0, fun _ => ⟨rfl, rfl⟩, fun h => (by cases h), fun h => (by cases h)⟩
  split
  · exact ⟨i64_1, i64_1, i64_0, i64_0, fun _ => ⟨rfl, rfl⟩, fun h => (by cases h), fun h => (by cases h)⟩
  split
  · rename_i h; exact ⟨i64_1, i64_1, i64_0, i64_0, fun h => (by cases h), fun _ => ⟨h.2.1, h.2.2⟩, fun _ => ⟨h.2.1, h.2.2⟩⟩
  split
  · exact ⟨i64_1, i64_0, i64_0, i64_1, fun _ => ⟨rfl, rfl⟩, fun h => (by cases h), fun h => (by cases h)⟩
  · exact ⟨i64_1, i64_0, i64_0, i64_1, fun _ => ⟨rfl, rfl⟩, fun h => (by cases h), fun h => (by cases h)⟩
/-- a slice's elements -/
def ExtL {α : Type} (enc : α → List Val) (n : Nat) (g : Nat → List Val) (l : List α) : Prop := l.length = n ∧ ∀ i (h : i < l.length), g i = enc l[i]
theorem ExtL.take {α : Type} {enc : α → List Val} {n k : Nat} {g : Nat → List Val} {l : List α} (h : ExtL enc n g l) (hk : k ≤ n) : ExtL enc (k - 0) (fun i => g (i + 0)) (l.take k) := by
  obtain ⟨rfl, h⟩ := h
  refine ⟨by rw [List.length_take]; omega, fun i hi => ?_⟩
  rw [List.length_take] at hi
  rw [List.getElem_take]
  exact h i (by omega)
theorem ExtL.drop {α : Type} {enc : α → List Val} {n k : Nat} {g : Nat → List Val} {l : List α} (h : ExtL enc n g l) : ExtL enc (n - k) (fun i => g (i + k)) (l.drop k) := by
  obtain ⟨rfl, h⟩ := h
  refine ⟨by rw [List.length_drop], fun i hi => ?_⟩
  rw [List.length_drop] at hi
  rw [List.getElem_drop]
  show g (i + k) = _
  rw [h (i + k) (by omega)]
  congr 2; omega
end Go.AM

set_option linter.unusedVariables false
set_option linter.unusedSimpArgs false
set_option maxRecDepth 100000
namespace Go.AM
def oneS (s : Sm) : Nat → List Val := fun i => (pieces 23 1 (cS s)).getD i []
theorem ExtL.one (s : Sm) : ExtL cS 1 (oneS s) [s] := ⟨rfl, fun i h => match i, h with | 0, _ => rfl⟩
theorem ExtL.snoc {n : Nat} {g : Nat → List Val} {l : List Sm} (h : ExtL cS n g l) (s : Sm) : ExtL cS (n + 1) (fun i => if i < n then g i else oneS s (i - n)) (l ++ [s]) := by
  obtain ⟨rfl, h⟩ := h
  refine ⟨by simp, fun i hi => ?_⟩
  rw [List.length_append, List.length_singleton] at hi
  show (if i < l.length then g i else oneS s (i - l.length)) = _
  split
  · rename_i k; rw [List.getElem_append_left k]; exact h i k
  · rename_i k
    obtain rfl : i = l.length := by omega
    rw [List.getElem_append_right (by omega)]
    simp only [Nat.sub_self, List.getElem_cons_zero]
    rfl
theorem ExtL.cons {n : Nat} {g : Nat → List Val} {l : List Sm} (h : ExtL cS n g l) (s : Sm) : ExtL cS (1 + n) (fun i => if i < 1 then oneS s i else g (i - 1)) (s :: l) := by
  obtain ⟨rfl, h⟩ := h
  refine ⟨by simp; omega, fun i hi => ?_⟩
  rw [List.length_cons] at hi
  match i with
  | 0 => rfl
  | i + 1 => exact h i (by omega)
end Go.AM

set_option linter.unusedVariables false
set_option linter.unusedSimpArgs false
set_option maxRecDepth 100000
namespace Go.AM
/-- whatever v stands for, v' stands for, too -/
def Val.le (v v' : Val) : Prop := ∀ ι φ u, Rel ι φ v u → Rel ι φ v' u
theorem Val.le.refl (v : Val) : v.le v := fun _ _ _ h => h
inductive LeL : List Val → List Val → Prop
  | nil : LeL [] []
  | cons {v v' : Val} {l l' : List Val} (h : v.le v') (hl : LeL l l') : LeL (v :: l) (v' :: l')
theorem LeL.refl : ∀ l : List Val, LeL l l
  | [] => .nil
  | v :: l => .cons (.refl v) (LeL.refl l)
theorem LeL.length {l l' : List Val} (h : LeL l l') : l'.length = l.length := by
  induction h with
  | nil => rfl
  | cons _ _ ih => simp [ih]
theorem LeL.get {l l' : List Val} (h : LeL l l') : ∀ i, i < l.length → (l.getD i .und).le (l'.getD i .und) := by
  induction h with
  | nil => intro i hi; exact absurd hi (by simp)
  | cons hv _ ih =>
    intro i hi
    cases i with
    | zero => exact hv
    | succ i => simpa using ih i (by simpa using hi)
theorem TmOk.le {ι : Map} {φ : Prot} {l l' : List Val} {us : Array Value} (hl : LeL l l') (h : TmOk ι φ l us) : TmOk ι φ l' us :=
  ⟨by rw [hl.length]; exact h.len, fun i hi => hl.get i (by rw [← hl.length]; exact hi) _ _ _ (h.rel i (by rw [← hl.length]; exact hi))⟩
theorem Ret.le {P : Program} {f : FuncId} {l l' : List Val} {h : List Blk} {v : Val} {h' : List Blk} (hl : LeL l l') (hr : Ret P f l' h v h') : Ret P f l h v h' :=
  ⟨hr.1, fun ι φ w cargs h1 h2 h3 => hr.2 ι φ w cargs h1 h2 (h3.le hl)⟩
/-- slices of the same elements -/
theorem le_ext {sz n : Nat} {g g' : Nat → List Val} (h : ∀ i, i < n → g i = g' i) : (Val.ext sz n g).le (.ext sz n g') := fun ι φ u hr => by
  cases hr with
  | c hc =>
    refine .c ?_
    cases hc with
    | ext _ _ _ a c vals hc hl hφ h1 hr =>
      refine .ext sz n g' a c vals hc (fun i hi => by rw [← h i hi]; exact hl i hi) hφ h1 (fun i j hi hj => by rw [← h i hi]; exact hr i j hi hj)
    | extNil => exact .extNil sz g'
theorem le_agg {l l' : List Val} (h : LeL l l') : (Val.agg l).le (.agg l') := fun ι φ u hr => by
  cases hr with
  | c hc => cases hc
  | agg _ us hs h1 hr =>
    refine .agg l' us (by rw [h.length]; exact hs) (fun i hi => h1 i (by rw [← h.length]; exact hi)) (fun i hi => h.get i (by rw [← h.length]; exact hi) _ _ _ (hr i (by rw [← h.length]; exact hi)))
theorem le_extL {α : Type} {enc : α → List Val} {sz n : Nat} {g : Nat → List Val} {l : List α} (h : ExtL enc n g l) : (Val.ext sz n g).le (eL sz enc l) := by
  obtain ⟨rfl, h⟩ := h
  exact le_ext fun i hi => by rw [h i hi]; unfold getL; rw [List.getElem?_eq_getElem hi]
theorem getL_nat {α : Type} {enc : α → List Val} {l : List α} {k : Nat} (h : k < l.length) : getL enc l (Int.toNat (k : Int)) = enc l[k] := by
  rw [Int.toNat_natCast]; unfold getL; rw [List.getElem?_eq_getElem h]
end Go.AM

set_option linter.unusedVariables false
set_option linter.unusedSimpArgs false
set_option maxRecDepth 100000
namespace Go.AM
structure Stp where
  fr : D
  base : D
  rate : D
  deriving DecidableEq
def cSt (s : Stp) : List Val := [.bool s.fr.neg, .int .u64 (l0 s.fr.n), .int .u64 (l1 s.fr.n), .int .u64 (l2 s.fr.n), .int .u64 (l3 s.fr.n), .int .i64 s.fr.scale,
  .bool s.base.neg, .int .u64 (l0 s.base.n), .int .u64 (l1 s.base.n), .int .u64 (l2 s.base.n), .int .u64 (l3 s.base.n), .int .i64 s.base.scale,
  .bool s.rate.neg, .int .u64 (l0 s.rate.n), .int .u64 (l1 s.rate.n), .int .u64 (l2 s.rate.n), .int .u64 (l3 s.rate.n), .int .i64 s.rate.scale]
structure Tb where
  name : ByteArray
  steps : List Stp
def Stp.ok (s : Stp) : Prop := s.fr.ok ∧ s.base.ok ∧ s.rate.ok
instance (s : Stp) : Decidable s.ok := inferInstanceAs (Decidable (_ ∧ _))
/-- each step begins above the one ahead of it -/
def Rise (l : List Stp) : Prop := ∀ i, (h : i + 1 < l.length) → l[i].fr.val < l[i + 1].fr.val
def AllOk (l : List Stp) : Prop := ∀ i, (h : i < l.length) → l[i].ok
open Classical in
noncomputable def checkT (l : List Stp) : Int := if 32 < l.length then 3 else if l.length = 0 then 140 else if ¬ AllOk l then 20 else if ¬ Rise l then 140 else 0
/-- how many steps begin at or below x -/
def placeT (l : List Stp) (x : D) : Nat := l.countP fun s => decide (s.fr.val ≤ x.val)
def saysD (s : Stp) (x : D) : D × Int :=
  if (subD x s.fr).2 ≠ 0 then (D0, (subD x s.fr).2) else
  if (mulToD (subD x s.fr).1 s.rate (min 18 ((subD x s.fr).1.scale + s.rate.scale)) 2).2 ≠ 0 then (D0, (mulToD (subD x s.fr).1 s.rate (min 18 ((subD x s.fr).1.scale + s.rate.scale)) 2).2) else
  addD (mulToD (subD x s.fr).1 s.rate (min 18 ((subD x s.fr).1.scale + s.rate.scale)) 2).1 s.base
noncomputable def findT (l : List Stp) (x : D) : Int × Int := if checkT l ≠ 0 then (0, checkT l) else if ¬ x.ok then (0, 20) else if placeT l x = 0 then (0, 141) else ((placeT l x : Int) - 1, 0)
noncomputable def atT (l : List Stp) (x : D) : D × Int := if (findT l x).2 ≠ 0 then (D0, (findT l x).2) else match l[(findT l x).1.toNat]? with
  | some s => saysD s x
  | none => (D0, 0)
theorem Rise.lt {l : List Stp} (h : Rise l) : ∀ (d i : Nat), (hi : i + d + 1 < l.length) → l[i].fr.val < l[i + d + 1].fr.val
  | 0, i, hi => h i hi
  | d + 1, i, hi => by
    have h1 := Rise.lt h d i (by omega)
    have h2 := h (i + d + 1) (by omega)
    exact Int.lt_trans h1 h2
theorem Rise.mono {l : List Stp} (h : Rise l) {i j : Nat} (hij : i ≤ j) (hj : j < l.length) : l[i].fr.val ≤ l[j].fr.val := by
  rcases Nat.lt_or_eq_of_le hij with h1 | h1
  · have := h.lt (j - i - 1) i (by omega)
    have e : i + (j - i - 1) + 1 = j := by omega
    simp only [e] at this
    omega
  · subst h1; omega
end Go.AM

