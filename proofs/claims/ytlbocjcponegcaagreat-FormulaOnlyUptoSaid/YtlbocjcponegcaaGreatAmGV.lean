/- Wide numbers: 320 bits. -/
import Derived.Test.YtlbocjcponegcaaGreatAmGU
set_option linter.unusedVariables false
set_option linter.unusedSimpArgs false
set_option maxRecDepth 100000
namespace Go.AM
/-- 2^320 -/
abbrev B5 : Int := 2135987035920910082395021706169552114602704522356652769947041607822219725780640550022962086936576
structure Wd where
  v : Int
  h : 0 ≤ v ∧ v < B5
theorem Wd.eq {a b : Wd} (h : a.v = b.v) : a = b := by
  cases a; cases b; simp only at h; subst h; rfl
instance : DecidableEq Wd := fun a b => if h : a.v = b.v then .isTrue (Wd.eq h) else .isFalse fun e => h (by rw [e])
def mkW (x : Int) : Wd := ⟨x % B5, by unfold B5; omega⟩
theorem mkW_v {x : Int} (h : 0 ≤ x ∧ x < B5) : (mkW x).v = x := Int.emod_eq_of_lt h.1 h.2
def Wd0 : Wd := ⟨0, by decide⟩
def m0 (a : Wd) : Int := a.v % 18446744073709551616
def m1 (a : Wd) : Int := a.v / 18446744073709551616 % 18446744073709551616
def m2 (a : Wd) : Int := a.v / 18446744073709551616 / 18446744073709551616 % 18446744073709551616
def m3 (a : Wd) : Int := a.v / 18446744073709551616 / 18446744073709551616 / 18446744073709551616 % 18446744073709551616
def m4 (a : Wd) : Int := a.v / 18446744073709551616 / 18446744073709551616 / 18446744073709551616 / 18446744073709551616 % 18446744073709551616
theorem m0_U (a : Wd) : U (m0 a) := by unfold U m0; omega
theorem m1_U (a : Wd) : U (m1 a) := by unfold U m1; omega
theorem m2_U (a : Wd) : U (m2 a) := by unfold U m2; omega
theorem m3_U (a : Wd) : U (m3 a) := by unfold U m3; omega
theorem m4_U (a : Wd) : U (m4 a) := by unfold U m4; omega
def cWd (a : Wd) : List Val := [.int .u64 (m0 a), .int .u64 (m1 a), .int .u64 (m2 a), .int .u64 (m3 a), .int .u64 (m4 a)]
def eWd (a : Wd) : Val := .agg (cWd a)
def val5 (x0 x1 x2 x3 x4 : Int) : Int := x0 + 18446744073709551616 * (x1 + 18446744073709551616 * (x2 + 18446744073709551616 * (x3 + 18446744073709551616 * x4)))
theorem wlimbs_v (a : Wd) : a.v = val5 (m0 a) (m1 a) (m2 a) (m3 a) (m4 a) := by
  obtain ⟨v, h0, h1⟩ := a
  unfold B5 at h1
  unfold val5 m0 m1 m2 m3 m4
  simp only
  have h3 : 0 ≤ v / 18446744073709551616 := by omega
  have h2 : v / 18446744073709551616 < 115792089237316195423570985008687907853269984665640564039457584007913129639936 := by omega
  generalize hm : v / 18446744073709551616 = m at *
  have h4 : m / 18446744073709551616 < 6277101735386680763835789423207666416102355444464034512896 := by omega
  have h5 : 0 ≤ m / 18446744073709551616 := by omega
  generalize hk : m / 18446744073709551616 = k at *
  have h6 : k / 18446744073709551616 < 340282366920938463463374607431768211456 := by omega
  have h7 : 0 ≤ k / 18446744073709551616 := by omega
  generalize hj : k / 18446744073709551616 = j at *
  omega
def ofW (x0 x1 x2 x3 x4 : Int) : Wd := mkW (val5 x0 x1 x2 x3 x4)
theorem val5_lt {x0 x1 x2 x3 x4 : Int} (h0 : U x0) (h1 : U x1) (h2 : U x2) (h3 : U x3) (h4 : U x4) : 0 ≤ val5 x0 x1 x2 x3 x4 ∧ val5 x0 x1 x2 x3 x4 < B5 := by
  unfold U at *; unfold val5 B5; omega
theorem ofW_m {x0 x1 x2 x3 x4 : Int} (h0 : U x0) (h1 : U x1) (h2 : U x2) (h3 : U x3) (h4 : U x4) : m0 (ofW x0 x1 x2 x3 x4) = x0 ∧ m1 (ofW x0 x1 x2 x3 x4) = x1 ∧ m2 (ofW x0 x1 x2 x3 x4) = x2 ∧ m3 (ofW x0 x1 x2 x3 x4) = x3 ∧ m4 (ofW x0 x1 x2 x3 x4) = x4 := by
  have hv : (ofW x0 x1 x2 x3 x4).v = val5 x0 x1 x2 x3 x4 := mkW_v (val5_lt h0 h1 h2 h3 h4)
  unfold m0 m1 m2 m3 m4
  rw [hv]
  unfold val5
  rw [(div_limb h0).1, (div_limb h0).2, (div_limb h1).1, (div_limb h1).2, (div_limb h2).1, (div_limb h2).2, (div_limb h3).1, (div_limb h3).2]
  unfold U at h4
  rw [Int.emod_eq_of_lt h4.1 h4.2]
  exact ⟨rfl, rfl, rfl, rfl, rfl⟩
theorem ofW_agg {x0 x1 x2 x3 x4 : Int} (h0 : U x0) (h1 : U x1) (h2 : U x2) (h3 : U x3) (h4 : U x4) : Val.agg [.int .u64 x0, .int .u64 x1, .int .u64 x2, .int .u64 x3, .int .u64 x4] = eWd (ofW x0 x1 x2 x3 x4) := by
  have h := ofW_m h0 h1 h2 h3 h4
  unfold eWd cWd
  rw [h.1, h.2.1, h.2.2.1, h.2.2.2.1, h.2.2.2.2]
theorem eWd_is {n x0 x1 x2 x3 x4 : Int} (h0 : U x0) (h1 : U x1) (h2 : U x2) (h3 : U x3) (h4 : U x4) (e : n % B5 = val5 x0 x1 x2 x3 x4) : Val.agg [.int .u64 x0, .int .u64 x1, .int .u64 x2, .int .u64 x3, .int .u64 x4] = eWd (mkW n) := by
  rw [ofW_agg h0 h1 h2 h3 h4]
  congr 1
  apply Wd.eq
  rw [ofW, mkW_v (val5_lt h0 h1 h2 h3 h4), ← e]; rfl
theorem U_mod (x : Int) : U (x % 18446744073709551616) := by unfold U; omega
theorem mkW_is {x y : Int} (h : (x - y) % B5 = 0) : mkW x = mkW y := Wd.eq (by unfold mkW; exact Int.emod_eq_emod_iff_emod_sub_eq_zero.2 h)
def wneg (w : Wd) : Wd := mkW (- w.v)
def topW (w : Wd) : Bool := decide (1067993517960455041197510853084776057301352261178326384973520803911109862890320275011481043468288 ≤ w.v)
def absW (w : Wd) : Wd := if topW w then wneg w else w
def narrow (w : Wd) (s : Int) : D × Int := if s < 0 ∨ 18 < s then (D0, 1) else if B4 ≤ (absW w).v then (D0, 7) else (⟨topW w, mkN (absW w).v, s⟩, 0)
theorem m4_lt (w : Wd) : m4 w = 0 ↔ w.v < B4 := by
  have := wlimbs_v w
  have a0 := m0_U w; have a1 := m1_U w; have a2 := m2_U w; have a3 := m3_U w; have a4 := m4_U w
  unfold U at *; unfold val5 at this; unfold B4
  omega
theorem m4_top (w : Wd) : (m4 w / 9223372036854775808 == 1) = topW w := by
  have := wlimbs_v w
  have a0 := m0_U w; have a1 := m1_U w; have a2 := m2_U w; have a3 := m3_U w; have a4 := m4_U w
  unfold topW
  rw [Bool.eq_iff_iff, beq_iff_eq, decide_eq_true_eq]
  unfold U at *; unfold val5 at this
  omega
theorem ml (w : Wd) (h : w.v < B4) : l0 (mkN w.v) = m0 w ∧ l1 (mkN w.v) = m1 w ∧ l2 (mkN w.v) = m2 w ∧ l3 (mkN w.v) = m3 w := by
  have e : (mkN w.v).v = w.v := mkN_v ⟨w.h.1, h⟩
  have h4 := (m4_lt w).2 h
  unfold l0 l1 l2 l3 m0 m1 m2 m3
  rw [e]
  refine ⟨rfl, rfl, rfl, ?_⟩
  have : w.v / 18446744073709551616 / 18446744073709551616 / 18446744073709551616 / 18446744073709551616 % 18446744073709551616 = 0 := h4
  have h0 := w.h.1
  unfold B4 at h
  generalize w.v = v at *
  omega
theorem narrow_low {w : Wd} {s : Int} (h : s < 0) : narrow w s = (D0, 1) := if_pos (.inl h)
theorem narrow_far {w : Wd} {s : Int} (h : s > 18) : narrow w s = (D0, 1) := if_pos (.inr h)
theorem absW_t {w : Wd} (h : 1067993517960455041197510853084776057301352261178326384973520803911109862890320275011481043468288 ≤ w.v) : absW w = wneg w := if_pos (decide_eq_true h)
theorem absW_f {w : Wd} (h : ¬ 1067993517960455041197510853084776057301352261178326384973520803911109862890320275011481043468288 ≤ w.v) : absW w = w := if_neg (by simpa [topW] using h)
theorem narrow_over {w x : Wd} {s : Int} (h0 : ¬ s < 0) (h1 : ¬ s > 18) (hx : absW w = x) (h : ¬ m4 x = 0) : narrow w s = (D0, 7) := by
  subst hx
  unfold narrow
  rw [if_neg (by omega), if_pos (by have := (not_congr (m4_lt (absW w))).1 h; omega)]
theorem narrow_ok {w x : Wd} {s : Int} (h0 : ¬ s < 0) (h1 : ¬ s > 18) (hx : absW w = x) (h : m4 x = 0) : narrow w s = (⟨topW w, mkN x.v, s⟩, 0) := by
  subst hx
  unfold narrow
  rw [if_neg (by omega), if_neg (by have := (m4_lt (absW w)).1 h; omega)]
theorem narrow_eD {t : Bool} {x : Wd} {s : Int} (h : m4 x = 0) : Val.agg [.bool t, .int .u64 (m0 x), .int .u64 (m1 x), .int .u64 (m2 x), .int .u64 (m3 x), .int .i64 s] = eD ⟨t, mkN x.v, s⟩ := by
  have e := ml x ((m4_lt x).1 h)
  rw [← e.1, ← e.2.1, ← e.2.2.1, ← e.2.2.2]; rfl
end Go.AM

set_option linter.unusedVariables false
set_option linter.unusedSimpArgs false
set_option maxRecDepth 100000
namespace Go.AM
structure Vl where
  kind : Int
  num : D
  flag : Bool
  text : ByteArray
  err : Int
  deriving DecidableEq
def Vl0 : Vl := ⟨0, D0, false, ⟨#[]⟩, 0⟩
def cV (v : Vl) : List Val := [.int .i64 v.kind, .bool v.num.neg, .int .u64 (l0 v.num.n), .int .u64 (l1 v.num.n), .int .u64 (l2 v.num.n), .int .u64 (l3 v.num.n), .int .i64 v.num.scale, .bool v.flag, .str v.text, .int .i64 v.err]
def eV (v : Vl) : Val := .agg (cV v)
structure Sm where
  rows : Int
  filled : Int
  blank : Int
  bad : Int
  err : Int
  total : Wd
  some : Bool
  min : D
  max : D
def Sm0 : Sm := ⟨0, 0, 0, 0, 0, Wd0, false, D0, D0⟩
def cS (s : Sm) : List Val := [.int .i64 s.rows, .int .i64 s.filled, .int .i64 s.blank, .int .i64 s.bad, .int .i64 s.err, .int .u64 (m0 s.total), .int .u64 (m1 s.total), .int .u64 (m2 s.total), .int .u64 (m3 s.total), .int .u64 (m4 s.total), .bool s.some,
  .bool s.min.neg, .int .u64 (l0 s.min.n), .int .u64 (l1 s.min.n), .int .u64 (l2 s.min.n), .int .u64 (l3 s.min.n), .int .i64 s.min.scale,
  .bool s.max.neg, .int .u64 (l0 s.max.n), .int .u64 (l1 s.max.n), .int .u64 (l2 s.max.n), .int .u64 (l3 s.max.n), .int .i64 s.max.scale]
def eS (s : Sm) : Val := .agg (cS s)
def numV (d : D) : Vl := ⟨1, d, false, ⟨#[]⟩, 0⟩
def errV (e : Int) : Vl := ⟨4, D0, false, ⟨#[]⟩, e⟩
def intD (n : Int) : D := ⟨decide (n < 0), mkN (if n < 0 then - n else n), 0⟩
def aggV (op : Int) (s : Sm) (c : Int) : Vl :=
  if op = 16 then numV (intD s.rows) else if op = 13 then numV (intD s.filled) else if op = 12 ∨ op = 14 ∨ op = 15 then
    if s.err = 0 then
      if op = 12 then (if (narrow s.total c).2 = 0 then numV (narrow s.total c).1 else errV 1)
      else if s.some then (if op = 14 then numV s.min else numV s.max) else errV 4
    else errV s.err
  else errV 2
def wI (x : Int) : Int := IntKind.i64.wrap x
def errJ (a b : Int) : Int := if b ≠ 0 ∧ (a = 0 ∨ b < a) then b else a
def minJ (a b : Sm) : D := if b.some = true ∧ (a.some = false ∨ cmpD b.min a.min < 0) then b.min else a.min
def maxJ (a b : Sm) : D := if b.some = true ∧ (a.some = false ∨ cmpD b.max a.max > 0) then b.max else a.max
def two (a b : Sm) : Sm := ⟨wI (a.rows + b.rows), wI (a.filled + b.filled), wI (a.blank + b.blank), wI (a.bad + b.bad), errJ a.err b.err, mkW (a.total.v + b.total.v), b.some || a.some, minJ a b, maxJ a b⟩
end Go.AM

set_option linter.unusedVariables false
set_option linter.unusedSimpArgs false
set_option maxRecDepth 100000
namespace Go.AM
/-- a slice's elements -/
def ExtL {α : Type} (enc : α → List Val) (n : Nat) (g : Nat → List Val) (l : List α) : Prop := l.length = n ∧ ∀ i (h : i < l.length), g i = enc l[i]
theorem ExtL.take {α : Type} {enc : α → List Val} {n k : Nat} {g : Nat → List Val} {l : List α} (h : ExtL enc n g l) (hk : k ≤ n) : ExtL enc (k - 0) (fun i => g (i + 0)) (l.take k) := by
  obtain ⟨rfl, h⟩ := h
  refine ⟨by rw [List.length_take]; omega, fun i hi => ?_⟩
  rw [List.length_take] at hi
  rw [List.getElem_take]
  exact h i (by omega)
theorem ExtL.drop {α : Type} {enc : α → List Val} {n k : Nat} {g : Nat → List Val} {l : List α} (h : ExtL enc n g l) : ExtL enc (n - k) (fun i => g (i + k)) (l.drop k) := by
  obtain ⟨rfl, h⟩ := h
  refine ⟨by rw [List.length_drop], fun i hi => ?_⟩
  rw [List.length_drop] at hi
  rw [List.getElem_drop]
  show g (i + k) = _
  rw [h (i + k) (by omega)]
  congr 2; omega
end Go.AM

set_option linter.unusedVariables false
set_option linter.unusedSimpArgs false
set_option maxRecDepth 100000
namespace Go.AM
/-- whatever v stands for, v' stands for, too -/
def Val.le (v v' : Val) : Prop := ∀ ι φ u, Rel ι φ v u → Rel ι φ v' u
theorem Val.le.refl (v : Val) : v.le v := fun _ _ _ h => h
inductive LeL : List Val → List Val → Prop
  | nil : LeL [] []
  | cons {v v' : Val} {l l' : List Val} (h : v.le v') (hl : LeL l l') : LeL (v :: l) (v' :: l')
theorem LeL.refl : ∀ l : List Val, LeL l l
  | [] => .nil
  | v :: l => .cons (.refl v) (LeL.refl l)
theorem LeL.length {l l' : List Val} (h : LeL l l') : l'.length = l.length := by
  induction h with
  | nil => rfl
  | cons _ _ ih => simp [ih]
theorem LeL.get {l l' : List Val} (h : LeL l l') : ∀ i, i < l.length → (l.getD i .und).le (l'.getD i .und) := by
  induction h with
  | nil => intro i hi; exact absurd hi (by simp)
  | cons hv _ ih =>
    intro i hi
    cases i with
    | zero => exact hv
    | succ i => simpa using ih i (by simpa using hi)
theorem TmOk.le {ι : Map} {φ : Prot} {l l' : List Val} {us : Array Value} (hl : LeL l l') (h : TmOk ι φ l us) : TmOk ι φ l' us :=
  ⟨by rw [hl.length]; exact h.len, fun i hi => hl.get i (by rw [← hl.length]; exact hi) _ _ _ (h.rel i (by rw [← hl.length]; exact hi))⟩
theorem Ret.le {P : Program} {f : FuncId} {l l' : List Val} {h : List Blk} {v : Val} {h' : List Blk} (hl : LeL l l') (hr : Ret P f l' h v h') : Ret P f l h v h' :=
  ⟨hr.1, fun ι φ w cargs h1 h2 h3 => hr.2 ι φ w cargs h1 h2 (h3.le hl)⟩
/-- slices of the same elements -/
theorem le_ext {sz n : Nat} {g g' : Nat → List Val} (h : ∀ i, i < n → g i = g' i) : (Val.ext sz n g).le (.ext sz n g') := fun ι φ u hr => by
  cases hr with
  | c hc =>
    refine .c ?_
    cases hc with
    | ext _ _ _ a c vals hc hl hφ h1 hr =>
      refine .ext sz n g' a c vals hc (fun i hi => by rw [← h i hi]; exact hl i hi) hφ h1 (fun i j hi hj => by rw [← h i hi]; exact hr i j hi hj)
    | extNil => exact .extNil sz g'
theorem le_agg {l l' : List Val} (h : LeL l l') : (Val.agg l).le (.agg l') := fun ι φ u hr => by
  cases hr with
  | c hc => cases hc
  | agg _ us hs h1 hr =>
    refine .agg l' us (by rw [h.length]; exact hs) (fun i hi => h1 i (by rw [← h.length]; exact hi)) (fun i hi => h.get i (by rw [← h.length]; exact hi) _ _ _ (hr i (by rw [← h.length]; exact hi)))
end Go.AM

set_option linter.unusedVariables false
set_option linter.unusedSimpArgs false
set_option maxRecDepth 100000
namespace Go.AM
structure Stp where
  fr : D
  base : D
  rate : D
  deriving DecidableEq
def cSt (s : Stp) : List Val := [.bool s.fr.neg, .int .u64 (l0 s.fr.n), .int .u64 (l1 s.fr.n), .int .u64 (l2 s.fr.n), .int .u64 (l3 s.fr.n), .int .i64 s.fr.scale,
  .bool s.base.neg, .int .u64 (l0 s.base.n), .int .u64 (l1 s.base.n), .int .u64 (l2 s.base.n), .int .u64 (l3 s.base.n), .int .i64 s.base.scale,
  .bool s.rate.neg, .int .u64 (l0 s.rate.n), .int .u64 (l1 s.rate.n), .int .u64 (l2 s.rate.n), .int .u64 (l3 s.rate.n), .int .i64 s.rate.scale]
structure Tb where
  name : ByteArray
  steps : List Stp
def cTb (t : Tb) : List Val := [.str t.name, eL 18 cSt t.steps]
def eTb (t : Tb) : Val := .agg (cTb t)
def Stp.ok (s : Stp) : Prop := s.fr.ok ∧ s.base.ok ∧ s.rate.ok
instance (s : Stp) : Decidable s.ok := inferInstanceAs (Decidable (_ ∧ _))
/-- each step begins above the one ahead of it -/
def Rise (l : List Stp) : Prop := ∀ i, (h : i + 1 < l.length) → l[i].fr.val < l[i + 1].fr.val
def AllOk (l : List Stp) : Prop := ∀ i, (h : i < l.length) → l[i].ok
open Classical in
noncomputable def checkT (l : List Stp) : Int := if 32 < l.length then 3 else if l.length = 0 then 140 else if ¬ AllOk l then 20 else if ¬ Rise l then 140 else 0
/-- how many steps begin at or below x -/
def placeT (l : List Stp) (x : D) : Nat := l.countP fun s => decide (s.fr.val ≤ x.val)
def saysD (s : Stp) (x : D) : D × Int :=
  if (subD x s.fr).2 ≠ 0 then (D0, (subD x s.fr).2) else
  if (mulToD (subD x s.fr).1 s.rate (min 18 ((subD x s.fr).1.scale + s.rate.scale)) 2).2 ≠ 0 then (D0, (mulToD (subD x s.fr).1 s.rate (min 18 ((subD x s.fr).1.scale + s.rate.scale)) 2).2) else
  addD (mulToD (subD x s.fr).1 s.rate (min 18 ((subD x s.fr).1.scale + s.rate.scale)) 2).1 s.base
noncomputable def findT (l : List Stp) (x : D) : Int × Int := if checkT l ≠ 0 then (0, checkT l) else if ¬ x.ok then (0, 20) else if placeT l x = 0 then (0, 141) else ((placeT l x : Int) - 1, 0)
noncomputable def atT (l : List Stp) (x : D) : D × Int := if (findT l x).2 ≠ 0 then (D0, (findT l x).2) else match l[(findT l x).1.toNat]? with
  | some s => saysD s x
  | none => (D0, 0)
theorem checkT_0 {l : List Stp} (h : checkT l = 0) : l.length ≤ 32 ∧ 0 < l.length ∧ AllOk l ∧ Rise l := by
  unfold checkT at h
  split at h
  · cases h
  split at h
  · cases h
  split at h
  · cases h
  split at h
  · cases h
  · rename_i h1 h2 h3 h4
    exact ⟨by omega, by omega, Classical.not_not.1 h3, Classical.not_not.1 h4⟩
theorem checkT_ok {l : List Stp} (h1 : l.length ≤ 32) (h2 : 0 < l.length) (h3 : AllOk l) (h4 : Rise l) : checkT l = 0 := by
  unfold checkT
  rw [if_neg (by omega), if_neg (by omega), if_neg (fun h => h h3), if_neg (fun h => h h4)]
theorem Rise.lt {l : List Stp} (h : Rise l) : ∀ (d i : Nat), (hi : i + d + 1 < l.length) → l[i].fr.val < l[i + d + 1].fr.val
  | 0, i, hi => h i hi
  | d + 1, i, hi => by
    have h1 := Rise.lt h d i (by omega)
    have h2 := h (i + d + 1) (by omega)
    exact Int.lt_trans h1 h2
theorem Rise.mono {l : List Stp} (h : Rise l) {i j : Nat} (hij : i ≤ j) (hj : j < l.length) : l[i].fr.val ≤ l[j].fr.val := by
  rcases Nat.lt_or_eq_of_le hij with h1 | h1
  · have := h.lt (j - i - 1) i (by omega)
    have e : i + (j - i - 1) + 1 = j := by omega
    simp only [e] at this
    omega
  · subst h1; omega
theorem Rise.tail {s : Stp} {l : List Stp} (h : Rise (s :: l)) : Rise l := fun i hi => h (i + 1) (by simpa using hi)
/-- the steps up to the place begin at or below x, the others above -/
theorem place_spec : ∀ {l : List Stp} {x : D}, Rise l → placeT l x ≤ l.length ∧ ∀ i, (h : i < l.length) → (l[i].fr.val ≤ x.val ↔ i < placeT l x)
  | [], x, _ => ⟨by simp [placeT], fun i h => absurd h (by simp)⟩
  | s :: l, x, h => by
    obtain ⟨h1, h2⟩ := place_spec (x := x) h.tail
    unfold placeT at *
    by_cases hs : s.fr.val ≤ x.val
    · rw [List.countP_cons_of_pos (by simpa using hs)]
      refine ⟨by simpa using h1, fun i hi => ?_⟩
      cases i with
      | zero => simp [hs]
      | succ i => simpa using h2 i (by simpa using hi)
    · have hz : ∀ y ∈ l, ¬ decide (y.fr.val ≤ x.val) = true := fun y hy => by
        obtain ⟨i, hi, rfl⟩ := List.getElem_of_mem hy
        have := h.lt i 0 (by simp; omega)
        simp at this ⊢; omega
      rw [List.countP_cons_of_neg (by simpa using hs), List.countP_eq_zero.2 hz]
      refine ⟨by simp, fun i hi => ?_⟩
      cases i with
      | zero => simp [hs]
      | succ i =>
        simp only [List.getElem_cons_succ, Nat.not_lt_zero, iff_false]
        have := hz (l[i]'(by simpa using hi)) (List.getElem_mem (by simpa using hi))
        simpa using this
theorem place_is {l : List Stp} {x : D} (h : Rise l) {k : Nat} (hk : k ≤ l.length) (h1 : ∀ i, (h : i < l.length) → i < k → l[i].fr.val ≤ x.val) (h2 : ∀ i, (h : i < l.length) → k ≤ i → ¬ l[i].fr.val ≤ x.val) : placeT l x = k := by
  obtain ⟨p1, p2⟩ := place_spec (x := x) h
  rcases Nat.lt_trichotomy (placeT l x) k with hh | hh | hh
  · have hlt : placeT l x < l.length := by omega
    have := (p2 _ hlt).1 (h1 _ hlt hh); omega
  · exact hh
  · have hlt : k < l.length := by omega
    exact absurd ((p2 _ hlt).2 hh) (h2 _ hlt (by omega))
theorem findT_0 {l : List Stp} {x : D} (h : (findT l x).2 = 0) : AllOk l ∧ x.ok ∧ ∃ i : Nat, ∃ hi : i < l.length, findT l x = ((i : Int), 0) ∧ Rise l ∧ placeT l x = i + 1 := by
  unfold findT at *
  split at h
  · exact absurd h ‹_›
  split at h
  · cases h
  split at h
  · cases h
  · rename_i h1 h2 h3
    have h1 : checkT l = 0 := by simpa using h1
    obtain ⟨c1, c2, c3, c4⟩ := checkT_0 h1
    have hp := (place_spec (x := x) c4).1
    refine ⟨c3, Classical.not_not.1 h2, placeT l x - 1, by omega, ?_, c4, by omega⟩
    rw [if_neg (by omega), if_neg h2, if_neg h3]
    congr 1; omega
end Go.AM

