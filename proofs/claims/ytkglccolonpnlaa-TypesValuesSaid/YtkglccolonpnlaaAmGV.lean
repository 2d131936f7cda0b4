/- Wide numbers: 320 bits. -/
import Derived.Test.YtkglccolonpnlaaAmGU
set_option linter.unusedVariables false
set_option linter.unusedSimpArgs false
set_option maxRecDepth 100000
namespace Go.AM
/-- 2^320 -/
abbrev B5 : Int := 2135987035920910082395021706169552114602704522356652769947041607822219725780640550022962086936576
structure Wd where
  v : Int
  h : 0 ≤ v ∧ v < B5
theorem Wd.eq {a b : Wd} (h : a.v = b.v) : a = b := by
  cases a; cases b; simp only at h; subst h; rfl
instance : DecidableEq Wd := fun a b => if h : a.v = b.v then .isTrue (Wd.eq h) else .isFalse fun e => h (by rw [e])
def mkW (x : Int) : Wd := ⟨x % B5, by unfold B5; omega⟩
theorem mkW_v {x : Int} (h : 0 ≤ x ∧ x < B5) : (mkW x).v = x := Int.emod_eq_of_lt h.1 h.2
theorem mkW_val (a : Wd) : mkW a.v = a := Wd.eq (mkW_v a.h)
def Wd0 : Wd := ⟨0, by decide⟩
def m0 (a : Wd) : Int := a.v % 18446744073709551616
def m1 (a : Wd) : Int := a.v / 18446744073709551616 % 18446744073709551616
def m2 (a : Wd) : Int := a.v / 18446744073709551616 / 18446744073709551616 % 18446744073709551616
def m3 (a : Wd) : Int := a.v / 18446744073709551616 / 18446744073709551616 / 18446744073709551616 % 18446744073709551616
def m4 (a : Wd) : Int := a.v / 18446744073709551616 / 18446744073709551616 / 18446744073709551616 / 18446744073709551616 % 18446744073709551616
theorem m0_U (a : Wd) : U (m0 a) := by unfold U m0; omega
theorem m1_U (a : Wd) : U (m1 a) := by unfold U m1; omega
theorem m2_U (a : Wd) : U (m2 a) := by unfold U m2; omega
theorem m3_U (a : Wd) : U (m3 a) := by unfold U m3; omega
theorem m4_U (a : Wd) : U (m4 a) := by unfold U m4; omega
def cWd (a : Wd) : List Val := [.int .u64 (m0 a), .int .u64 (m1 a), .int .u64 (m2 a), .int .u64 (m3 a), .int .u64 (m4 a)]
def eWd (a : Wd) : Val := .agg (cWd a)
def val5 (x0 x1 x2 x3 x4 : Int) : Int := x0 + 18446744073709551616 * (x1 + 18446744073709551616 * (x2 + 18446744073709551616 * (x3 + 18446744073709551616 * x4)))
theorem wlimbs_v (a : Wd) : a.v = val5 (m0 a) (m1 a) (m2 a) (m3 a) (m4 a) := by
  obtain ⟨v, h0, h1⟩ := a
  unfold B5 at h1
  unfold val5 m0 m1 m2 m3 m4
  simp only
  have h3 : 0 ≤ v / 18446744073709551616 := by omega
  have h2 : v / 18446744073709551616 < 115792089237316195423570985008687907853269984665640564039457584007913129639936 := by omega
  generalize hm : v / 18446744073709551616 = m at *
  have h4 : m / 18446744073709551616 < 6277101735386680763835789423207666416102355444464034512896 := by omega
  have h5 : 0 ≤ m / 18446744073709551616 := by omega
  generalize hk : m / 18446744073709551616 = k at *
  have h6 : k / 18446744073709551616 < 340282366920938463463374607431768211456 := by omega
  have h7 : 0 ≤ k / 18446744073709551616 := by omega
  generalize hj : k / 18446744073709551616 = j at *
  omega
def ofW (x0 x1 x2 x3 x4 : Int) : Wd := mkW (val5 x0 x1 x2 x3 x4)
theorem val5_lt {x0 x1 x2 x3 x4 : Int} (h0 : U x0) (h1 : U x1) (h2 : U x2) (h3 : U x3) (h4 : U x4) : 0 ≤ val5 x0 x1 x2 x3 x4 ∧ val5 x0 x1 x2 x3 x4 < B5 := by
  unfold U at *; unfold val5 B5; omega
theorem ofW_m {x0 x1 x2 x3 x4 : Int} (h0 : U x0) (h1 : U x1) (h2 : U x2) (h3 : U x3) (h4 : U x4) : m0 (ofW x0 x1 x2 x3 x4) = x0 ∧ m1 (ofW x0 x1 x2 x3 x4) = x1 ∧ m2 (ofW x0 x1 x2 x3 x4) = x2 ∧ m3 (ofW x0 x1 x2 x3 x4) = x3 ∧ m4 (ofW x0 x1 x2 x3 x4) = x4 := by
  have hv : (ofW x0 x1 x2 x3 x4).v = val5 x0 x1 x2 x3 x4 := mkW_v (val5_lt h0 h1 h2 h3 h4)
  unfold m0 m1 m2 m3 m4
  rw [hv]
  unfold val5
  rw [(div_limb h0).1, (div_limb h0).2, (div_limb h1).1, (div_limb h1).2, (div_limb h2).1, (div_limb h2).2, (div_limb h3).1, (div_limb h3).2]
  unfold U at h4
  rw [Int.emod_eq_of_lt h4.1 h4.2]
  exact ⟨rfl, rfl, rfl, rfl, rfl⟩
theorem wlimbs_eq {a b : Wd} (h0 : m0 a = m0 b) (h1 : m1 a = m1 b) (h2 : m2 a = m2 b) (h3 : m3 a = m3 b) (h4 : m4 a = m4 b) : a = b := Wd.eq (by rw [wlimbs_v a, wlimbs_v b, h0, h1, h2, h3, h4])
theorem ofW_agg {x0 x1 x2 x3 x4 : Int} (h0 : U x0) (h1 : U x1) (h2 : U x2) (h3 : U x3) (h4 : U x4) : Val.agg [.int .u64 x0, .int .u64 x1, .int .u64 x2, .int .u64 x3, .int .u64 x4] = eWd (ofW x0 x1 x2 x3 x4) := by
  have h := ofW_m h0 h1 h2 h3 h4
  unfold eWd cWd
  rw [h.1, h.2.1, h.2.2.1, h.2.2.2.1, h.2.2.2.2]
theorem eWd_is {n x0 x1 x2 x3 x4 : Int} (h0 : U x0) (h1 : U x1) (h2 : U x2) (h3 : U x3) (h4 : U x4) (e : n % B5 = val5 x0 x1 x2 x3 x4) : Val.agg [.int .u64 x0, .int .u64 x1, .int .u64 x2, .int .u64 x3, .int .u64 x4] = eWd (mkW n) := by
  rw [ofW_agg h0 h1 h2 h3 h4]
  congr 1
  apply Wd.eq
  rw [ofW, mkW_v (val5_lt h0 h1 h2 h3 h4), ← e]; rfl
theorem eqWd_and (a b : Wd) (r : Bool) : (m0 a == m0 b && (m1 a == m1 b && (m2 a == m2 b && (m3 a == m3 b && (m4 a == m4 b && r))))) = (decide (a = b) && r) := by
  have e : (m0 a == m0 b && (m1 a == m1 b && (m2 a == m2 b && (m3 a == m3 b && (m4 a == m4 b && true))))) = decide (a = b) := by
    rw [Bool.eq_iff_iff]
    simp only [Bool.and_eq_true, beq_iff_eq, decide_eq_true_eq, and_true]
    constructor
    · rintro ⟨h0, h1, h2, h3, h4⟩; exact wlimbs_eq h0 h1 h2 h3 h4
    · rintro rfl; exact ⟨rfl, rfl, rfl, rfl, rfl⟩
  rw [← e]; simp [Bool.and_assoc]
theorem eqWd_ (a b : Wd) : (m0 a == m0 b && (m1 a == m1 b && (m2 a == m2 b && (m3 a == m3 b && (m4 a == m4 b && true))))) = decide (a = b) := by rw [eqWd_and, Bool.and_true]
theorem U_mod (x : Int) : U (x % 18446744073709551616) := by unfold U; omega
theorem mkW_mod (x : Int) : mkW (x % B5) = mkW x := Wd.eq (by unfold mkW; simp only [Int.emod_emod_of_dvd _ (Int.dvd_refl _)])
theorem mkW_is {x y : Int} (h : (x - y) % B5 = 0) : mkW x = mkW y := Wd.eq (by unfold mkW; exact Int.emod_eq_emod_iff_emod_sub_eq_zero.2 h)
def wneg (w : Wd) : Wd := mkW (- w.v)
/-- wide of a decimal -/
def widen (d : D) : Wd := mkW (if d.neg then - d.n.v else d.n.v)
def topW (w : Wd) : Bool := decide (1067993517960455041197510853084776057301352261178326384973520803911109862890320275011481043468288 ≤ w.v)
def absW (w : Wd) : Wd := if topW w then wneg w else w
def narrow (w : Wd) (s : Int) : D × Int := if s < 0 ∨ 18 < s then (D0, 1) else if B4 ≤ (absW w).v then (D0, 7) else (⟨topW w, mkN (absW w).v, s⟩, 0)
theorem m4_lt (w : Wd) : m4 w = 0 ↔ w.v < B4 := by
  have := wlimbs_v w
  have a0 := m0_U w; have a1 := m1_U w; have a2 := m2_U w; have a3 := m3_U w; have a4 := m4_U w
  unfold U at *; unfold val5 at this; unfold B4
  omega
theorem m4_top (w : Wd) : (m4 w / 9223372036854775808 == 1) = topW w := by
  have := wlimbs_v w
  have a0 := m0_U w; have a1 := m1_U w; have a2 := m2_U w; have a3 := m3_U w; have a4 := m4_U w
  unfold topW
  rw [Bool.eq_iff_iff, beq_iff_eq, decide_eq_true_eq]
  unfold U at *; unfold val5 at this
  omega
theorem ml (w : Wd) (h : w.v < B4) : l0 (mkN w.v) = m0 w ∧ l1 (mkN w.v) = m1 w ∧ l2 (mkN w.v) = m2 w ∧ l3 (mkN w.v) = m3 w := by
  have e : (mkN w.v).v = w.v := mkN_v ⟨w.h.1, h⟩
  have h4 := (m4_lt w).2 h
  unfold l0 l1 l2 l3 m0 m1 m2 m3
  rw [e]
  refine ⟨rfl, rfl, rfl, ?_⟩
  have : w.v / 18446744073709551616 / 18446744073709551616 / 18446744073709551616 / 18446744073709551616 % 18446744073709551616 = 0 := h4
  have h0 := w.h.1
  unfold B4 at h
  generalize w.v = v at *
  omega
theorem narrow_low {w : Wd} {s : Int} (h : s < 0) : narrow w s = (D0, 1) := if_pos (.inl h)
theorem narrow_far {w : Wd} {s : Int} (h : s > 18) : narrow w s = (D0, 1) := if_pos (.inr h)
theorem absW_t {w : Wd} (h : 1067993517960455041197510853084776057301352261178326384973520803911109862890320275011481043468288 ≤ w.v) : absW w = wneg w := if_pos (decide_eq_true h)
theorem absW_f {w : Wd} (h : ¬ 1067993517960455041197510853084776057301352261178326384973520803911109862890320275011481043468288 ≤ w.v) : absW w = w := if_neg (by simpa [topW] using h)
theorem narrow_over {w x : Wd} {s : Int} (h0 : ¬ s < 0) (h1 : ¬ s > 18) (hx : absW w = x) (h : ¬ m4 x = 0) : narrow w s = (D0, 7) := by
  subst hx
  unfold narrow
  rw [if_neg (by omega), if_pos (by have := (not_congr (m4_lt (absW w))).1 h; omega)]
theorem narrow_ok {w x : Wd} {s : Int} (h0 : ¬ s < 0) (h1 : ¬ s > 18) (hx : absW w = x) (h : m4 x = 0) : narrow w s = (⟨topW w, mkN x.v, s⟩, 0) := by
  subst hx
  unfold narrow
  rw [if_neg (by omega), if_neg (by have := (m4_lt (absW w)).1 h; omega)]
theorem narrow_eD {t : Bool} {x : Wd} {s : Int} (h : m4 x = 0) : Val.agg [.bool t, .int .u64 (m0 x), .int .u64 (m1 x), .int .u64 (m2 x), .int .u64 (m3 x), .int .i64 s] = eD ⟨t, mkN x.v, s⟩ := by
  have e := ml x ((m4_lt x).1 h)
  rw [← e.1, ← e.2.1, ← e.2.2.1, ← e.2.2.2]; rfl
end Go.AM
set_option linter.unusedVariables false
set_option linter.unusedSimpArgs false
set_option maxRecDepth 100000
namespace Go.AM
structure Vl where
  kind : Int
  num : D
  flag : Bool
  text : ByteArray
  err : Int
  deriving DecidableEq
def Vl0 : Vl := ⟨0, D0, false, ⟨#[]⟩, 0⟩
def cV (v : Vl) : List Val := [.int .i64 v.kind, .bool v.num.neg, .int .u64 (l0 v.num.n), .int .u64 (l1 v.num.n), .int .u64 (l2 v.num.n), .int .u64 (l3 v.num.n), .int .i64 v.num.scale, .bool v.flag, .str v.text, .int .i64 v.err]
def eV (v : Vl) : Val := .agg (cV v)
structure Sm where
  rows : Int
  filled : Int
  blank : Int
  bad : Int
  err : Int
  total : Wd
  some : Bool
  min : D
  max : D
def Sm0 : Sm := ⟨0, 0, 0, 0, 0, Wd0, false, D0, D0⟩
def cS (s : Sm) : List Val := [.int .i64 s.rows, .int .i64 s.filled, .int .i64 s.blank, .int .i64 s.bad, .int .i64 s.err, .int .u64 (m0 s.total), .int .u64 (m1 s.total), .int .u64 (m2 s.total), .int .u64 (m3 s.total), .int .u64 (m4 s.total), .bool s.some,
  .bool s.min.neg, .int .u64 (l0 s.min.n), .int .u64 (l1 s.min.n), .int .u64 (l2 s.min.n), .int .u64 (l3 s.min.n), .int .i64 s.min.scale,
  .bool s.max.neg, .int .u64 (l0 s.max.n), .int .u64 (l1 s.max.n), .int .u64 (l2 s.max.n), .int .u64 (l3 s.max.n), .int .i64 s.max.scale]
def eS (s : Sm) : Val := .agg (cS s)
def badS (e : Int) : Sm := ⟨1, 0, 0, 1, e, Wd0, false, D0, D0⟩
def numS (d : D) : Sm := ⟨1, 1, 0, 0, 0, widen d, true, d, d⟩
def blankS : Sm := ⟨1, 0, 1, 0, 0, Wd0, false, D0, D0⟩
def fullS : Sm := ⟨1, 1, 0, 0, 0, Wd0, false, D0, D0⟩
def ofVl (v : Vl) (s : Int) : Sm :=
  if v.kind = 0 then blankS else if v.kind = 2 ∨ v.kind = 3 then fullS else if v.kind = 1 ∧ v.num.ok ∧ v.num.scale = s then numS v.num
  else if v.kind = 4 ∧ 1 ≤ v.err then badS v.err else badS 2
theorem check_zero {d : D} : check d = 0 ↔ d.ok := by
  constructor
  · intro h
    by_cases k : d.ok
    · exact k
    · rw [check_bad k] at h; omega
  · exact check_ok
theorem ofVl0 {v : Vl} {s : Int} (h : v.kind = 0) : ofVl v s = blankS := if_pos h
theorem ofVl2 {v : Vl} {s : Int} (h : v.kind = 2 ∨ v.kind = 3) : ofVl v s = fullS := by unfold ofVl; rw [if_neg (by omega), if_pos h]
theorem ofVl1 {v : Vl} {s : Int} (h : v.kind = 1) (h1 : check v.num = 0) (h2 : v.num.scale = s) : ofVl v s = numS v.num := by
  unfold ofVl; rw [if_neg (by omega), if_neg (by omega), if_pos ⟨h, check_zero.1 h1, h2⟩]
theorem ofVl1a {v : Vl} {s : Int} (h : v.kind = 1) (h1 : ¬ check v.num = 0) : ofVl v s = badS 2 := by
  unfold ofVl; rw [if_neg (by omega), if_neg (by omega), if_neg (fun k => h1 (check_zero.2 k.2.1)), if_neg (by omega)]
theorem ofVl1b {v : Vl} {s : Int} (h : v.kind = 1) (h1 : ¬ v.num.scale = s) : ofVl v s = badS 2 := by
  unfold ofVl; rw [if_neg (by omega), if_neg (by omega), if_neg (fun k => h1 k.2.2), if_neg (by omega)]
theorem ofVl4 {v : Vl} {s : Int} (h : v.kind = 4) (h1 : v.err ≥ 1) : ofVl v s = badS v.err := by
  unfold ofVl; rw [if_neg (by omega), if_neg (by omega), if_neg (fun k => by omega), if_pos ⟨h, h1⟩]
theorem ofVl4a {v : Vl} {s : Int} (h : v.kind = 4) (h1 : ¬ v.err ≥ 1) : ofVl v s = badS 2 := by
  unfold ofVl; rw [if_neg (by omega), if_neg (by omega), if_neg (fun k => by omega), if_neg (fun k => h1 k.2)]
theorem ofVlx {v : Vl} {s : Int} (h0 : ¬ v.kind = 0) (h1 : ¬ v.kind = 1) (h2 : ¬ v.kind = 2) (h3 : ¬ v.kind = 3) (h4 : ¬ v.kind = 4) : ofVl v s = badS 2 := by
  unfold ofVl; rw [if_neg (by omega), if_neg (by omega), if_neg (fun k => by omega), if_neg (fun k => by omega)]
def numV (d : D) : Vl := ⟨1, d, false, ⟨#[]⟩, 0⟩
def errV (e : Int) : Vl := ⟨4, D0, false, ⟨#[]⟩, e⟩
def intD (n : Int) : D := ⟨decide (n < 0), mkN (if n < 0 then - n else n), 0⟩
def aggV (op : Int) (s : Sm) (c : Int) : Vl :=
  if op = 16 then numV (intD s.rows) else if op = 13 then numV (intD s.filled) else if op = 12 ∨ op = 14 ∨ op = 15 then
    if s.err = 0 then
      if op = 12 then (if (narrow s.total c).2 = 0 then numV (narrow s.total c).1 else errV 1)
      else if s.some then (if op = 14 then numV s.min else numV s.max) else errV 4
    else errV s.err
  else errV 2
def wI (x : Int) : Int := IntKind.i64.wrap x
def errJ (a b : Int) : Int := if b ≠ 0 ∧ (a = 0 ∨ b < a) then b else a
def minJ (a b : Sm) : D := if b.some = true ∧ (a.some = false ∨ cmpD b.min a.min < 0) then b.min else a.min
def maxJ (a b : Sm) : D := if b.some = true ∧ (a.some = false ∨ cmpD b.max a.max > 0) then b.max else a.max
def two (a b : Sm) : Sm := ⟨wI (a.rows + b.rows), wI (a.filled + b.filled), wI (a.blank + b.blank), wI (a.bad + b.bad), errJ a.err b.err, mkW (a.total.v + b.total.v), b.some || a.some, minJ a b, maxJ a b⟩
def joinS (l : List Sm) : Sm := l.foldl two Sm0
theorem sm_eq {a b c d e a' b' c' d' e' : Int} {t t' : Wd} {s s' : Bool} {m m' x x' : D} (h1 : a = a') (h2 : b = b') (h3 : c = c') (h4 : d = d') (h5 : e = e') (h6 : t = t') (h7 : s = s') (h8 : m = m') (h9 : x = x') : (⟨a, b, c, d, e, t, s, m, x⟩ : Sm) = ⟨a', b', c', d', e', t', s', m', x'⟩ := by
  subst h1; subst h2; subst h3; subst h4; subst h5; subst h6; subst h7; subst h8; subst h9; rfl
end Go.AM
