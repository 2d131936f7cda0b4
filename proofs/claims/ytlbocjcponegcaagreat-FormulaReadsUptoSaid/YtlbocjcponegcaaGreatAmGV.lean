/- Wide numbers: 320 bits. -/
import Derived.Test.YtlbocjcponegcaaGreatAmGU
set_option linter.unusedVariables false
set_option linter.unusedSimpArgs false
set_option maxRecDepth 100000
namespace Go.AM
/-- 2^320 -/
abbrev B5 : Int := 2135987035920910082395021706169552114602704522356652769947041607822219725780640550022962086936576
structure Wd where
  v : Int
  h : 0 ≤ v ∧ v < B5
theorem Wd.eq {a b : Wd} (h : a.v = b.v) : a = b := by
  cases a; cases b; simp only at h; subst h; rfl
instance : DecidableEq Wd := fun a b => if h : a.v = b.v then .isTrue (Wd.eq h) else .isFalse fun e => h (by rw [e])
def mkW (x : Int) : Wd := ⟨x % B5, by unfold B5; omega⟩
def Wd0 : Wd := ⟨0, by decide⟩
def m0 (a : Wd) : Int := a.v % 18446744073709551616
def m1 (a : Wd) : Int := a.v / 18446744073709551616 % 18446744073709551616
def m2 (a : Wd) : Int := a.v / 18446744073709551616 / 18446744073709551616 % 18446744073709551616
def m3 (a : Wd) : Int := a.v / 18446744073709551616 / 18446744073709551616 / 18446744073709551616 % 18446744073709551616
def m4 (a : Wd) : Int := a.v / 18446744073709551616 / 18446744073709551616 / 18446744073709551616 / 18446744073709551616 % 18446744073709551616
def wneg (w : Wd) : Wd := mkW (- w.v)
def topW (w : Wd) : Bool := decide (1067993517960455041197510853084776057301352261178326384973520803911109862890320275011481043468288 ≤ w.v)
def absW (w : Wd) : Wd := if topW w then wneg w else w
def narrow (w : Wd) (s : Int) : D × Int := if s < 0 ∨ 18 < s then (D0, 1) else if B4 ≤ (absW w).v then (D0, 7) else (⟨topW w, mkN (absW w).v, s⟩, 0)
end Go.AM

set_option linter.unusedVariables false
set_option linter.unusedSimpArgs false
set_option maxRecDepth 100000
namespace Go.AM
structure Vl where
  kind : Int
  num : D
  flag : Bool
  text : ByteArray
  err : Int
  deriving DecidableEq
def Vl0 : Vl := ⟨0, D0, false, ⟨#[]⟩, 0⟩
def cV (v : Vl) : List Val := [.int .i64 v.kind, .bool v.num.neg, .int .u64 (l0 v.num.n), .int .u64 (l1 v.num.n), .int .u64 (l2 v.num.n), .int .u64 (l3 v.num.n), .int .i64 v.num.scale, .bool v.flag, .str v.text, .int .i64 v.err]
structure Sm where
  rows : Int
  filled : Int
  blank : Int
  bad : Int
  err : Int
  total : Wd
  some : Bool
  min : D
  max : D
def Sm0 : Sm := ⟨0, 0, 0, 0, 0, Wd0, false, D0, D0⟩
def cS (s : Sm) : List Val := [.int .i64 s.rows, .int .i64 s.filled, .int .i64 s.blank, .int .i64 s.bad, .int .i64 s.err, .int .u64 (m0 s.total), .int .u64 (m1 s.total), .int .u64 (m2 s.total), .int .u64 (m3 s.total), .int .u64 (m4 s.total), .bool s.some,
  .bool s.min.neg, .int .u64 (l0 s.min.n), .int .u64 (l1 s.min.n), .int .u64 (l2 s.min.n), .int .u64 (l3 s.min.n), .int .i64 s.min.scale,
  .bool s.max.neg, .int .u64 (l0 s.max.n), .int .u64 (l1 s.max.n), .int .u64 (l2 s.max.n), .int .u64 (l3 s.max.n), .int .i64 s.max.scale]
def numV (d : D) : Vl := ⟨1, d, false, ⟨#[]⟩, 0⟩
def errV (e : Int) : Vl := ⟨4, D0, false, ⟨#[]⟩, e⟩
def intD (n : Int) : D := ⟨decide (n < 0), mkN (if n < 0 then - n else n), 0⟩
def aggV (op : Int) (s : Sm) (c : Int) : Vl :=
  if op = 16 then numV (intD s.rows) else if op = 13 then numV (intD s.filled) else if op = 12 ∨ op = 14 ∨ op = 15 then
    if s.err = 0 then
      if op = 12 then (if (narrow s.total c).2 = 0 then numV (narrow s.total c).1 else errV 1)
      else if s.some then (if op = 14 then numV s.min else numV s.max) else errV 4
    else errV s.err
  else errV 2
def wI (x : Int) : Int := IntKind.i64.wrap x
def errJ (a b : Int) : Int := if b ≠ 0 ∧ (a = 0 ∨ b < a) then b else a
def minJ (a b : Sm) : D := if b.some = true ∧ (a.some = false ∨ cmpD b.min a.min < 0) then b.min else a.min
def maxJ (a b : Sm) : D := if b.some = true ∧ (a.some = false ∨ cmpD b.max a.max > 0) then b.max else a.max
def two (a b : Sm) : Sm := ⟨wI (a.rows + b.rows), wI (a.filled + b.filled), wI (a.blank + b.blank), wI (a.bad + b.bad), errJ a.err b.err, mkW (a.total.v + b.total.v), b.some || a.some, minJ a b, maxJ a b⟩
end Go.AM

set_option linter.unusedVariables false
set_option linter.unusedSimpArgs false
set_option maxRecDepth 100000
namespace Go.AM
/-- a slice's elements -/
def ExtL {α : Type} (enc : α → List Val) (n : Nat) (g : Nat → List Val) (l : List α) : Prop := l.length = n ∧ ∀ i (h : i < l.length), g i = enc l[i]
theorem ExtL.take {α : Type} {enc : α → List Val} {n k : Nat} {g : Nat → List Val} {l : List α} (h : ExtL enc n g l) (hk : k ≤ n) : ExtL enc (k - 0) (fun i => g (i + 0)) (l.take k) := by
  obtain ⟨rfl, h⟩ := h
  refine ⟨by rw [List.length_take]; omega, fun i hi => ?_⟩
  rw [List.length_take] at hi
  rw [List.getElem_take]
  exact h i (by omega)
theorem ExtL.drop {α : Type} {enc : α → List Val} {n k : Nat} {g : Nat → List Val} {l : List α} (h : ExtL enc n g l) : ExtL enc (n - k) (fun i => g (i + k)) (l.drop k) := by
  obtain ⟨rfl, h⟩ := h
  refine ⟨by rw [List.length_drop], fun i hi => ?_⟩
  rw [List.length_drop] at hi
  rw [List.getElem_drop]
  show g (i + k) = _
  rw [h (i + k) (by omega)]
  congr 2; omega
end Go.AM

set_option linter.unusedVariables false
set_option linter.unusedSimpArgs false
set_option maxRecDepth 100000
namespace Go.AM
/-- whatever v stands for, v' stands for, too -/
def Val.le (v v' : Val) : Prop := ∀ ι φ u, Rel ι φ v u → Rel ι φ v' u
theorem Val.le.refl (v : Val) : v.le v := fun _ _ _ h => h
inductive LeL : List Val → List Val → Prop
  | nil : LeL [] []
  | cons {v v' : Val} {l l' : List Val} (h : v.le v') (hl : LeL l l') : LeL (v :: l) (v' :: l')
theorem LeL.refl : ∀ l : List Val, LeL l l
  | [] => .nil
  | v :: l => .cons (.refl v) (LeL.refl l)
theorem LeL.length {l l' : List Val} (h : LeL l l') : l'.length = l.length := by
  induction h with
  | nil => rfl
  | cons _ _ ih => simp [ih]
theorem LeL.get {l l' : List Val} (h : LeL l l') : ∀ i, i < l.length → (l.getD i .und).le (l'.getD i .und) := by
  induction h with
  | nil => intro i hi; exact absurd hi (by simp)
  | cons hv _ ih =>
    intro i hi
    cases i with
    | zero => exact hv
    | succ i => simpa using ih i (by simpa using hi)
theorem TmOk.le {ι : Map} {φ : Prot} {l l' : List Val} {us : Array Value} (hl : LeL l l') (h : TmOk ι φ l us) : TmOk ι φ l' us :=
  ⟨by rw [hl.length]; exact h.len, fun i hi => hl.get i (by rw [← hl.length]; exact hi) _ _ _ (h.rel i (by rw [← hl.length]; exact hi))⟩
theorem Ret.le {P : Program} {f : FuncId} {l l' : List Val} {h : List Blk} {v : Val} {h' : List Blk} (hl : LeL l l') (hr : Ret P f l' h v h') : Ret P f l h v h' :=
  ⟨hr.1, fun ι φ w cargs h1 h2 h3 => hr.2 ι φ w cargs h1 h2 (h3.le hl)⟩
/-- slices of the same elements -/
theorem le_ext {sz n : Nat} {g g' : Nat → List Val} (h : ∀ i, i < n → g i = g' i) : (Val.ext sz n g).le (.ext sz n g') := fun ι φ u hr => by
  cases hr with
  | c hc =>
    refine .c ?_
    cases hc with
    | ext _ _ _ a c vals hc hl hφ h1 hr =>
      refine .ext sz n g' a c vals hc (fun i hi => by rw [← h i hi]; exact hl i hi) hφ h1 (fun i j hi hj => by rw [← h i hi]; exact hr i j hi hj)
    | extNil => exact .extNil sz g'
theorem le_agg {l l' : List Val} (h : LeL l l') : (Val.agg l).le (.agg l') := fun ι φ u hr => by
  cases hr with
  | c hc => cases hc
  | agg _ us hs h1 hr =>
    refine .agg l' us (by rw [h.length]; exact hs) (fun i hi => h1 i (by rw [← h.length]; exact hi)) (fun i hi => h.get i (by rw [← h.length]; exact hi) _ _ _ (hr i (by rw [← h.length]; exact hi)))
theorem le_extL {α : Type} {enc : α → List Val} {sz n : Nat} {g : Nat → List Val} {l : List α} (h : ExtL enc n g l) : (Val.ext sz n g).le (eL sz enc l) := by
  obtain ⟨rfl, h⟩ := h
  exact le_ext fun i hi => by rw [h i hi]; unfold getL; rw [List.getElem?_eq_getElem hi]
/-- no elements -/
theorem le_nils {α : Type} {enc : α → List Val} {sz : Nat} : Val.nils.le (eL sz enc []) := fun ι φ u hr => by
  cases hr with
  | c hc =>
    cases hc with
    | nils => exact .c (.extNil sz _)
end Go.AM

set_option linter.unusedVariables false
set_option linter.unusedSimpArgs false
set_option maxRecDepth 100000
namespace Go.AM
structure Stp where
  fr : D
  base : D
  rate : D
  deriving DecidableEq
def cSt (s : Stp) : List Val := [.bool s.fr.neg, .int .u64 (l0 s.fr.n), .int .u64 (l1 s.fr.n), .int .u64 (l2 s.fr.n), .int .u64 (l3 s.fr.n), .int .i64 s.fr.scale,
  .bool s.base.neg, .int .u64 (l0 s.base.n), .int .u64 (l1 s.base.n), .int .u64 (l2 s.base.n), .int .u64 (l3 s.base.n), .int .i64 s.base.scale,
  .bool s.rate.neg, .int .u64 (l0 s.rate.n), .int .u64 (l1 s.rate.n), .int .u64 (l2 s.rate.n), .int .u64 (l3 s.rate.n), .int .i64 s.rate.scale]
structure Tb where
  name : ByteArray
  steps : List Stp
def Stp.ok (s : Stp) : Prop := s.fr.ok ∧ s.base.ok ∧ s.rate.ok
instance (s : Stp) : Decidable s.ok := inferInstanceAs (Decidable (_ ∧ _))
/-- each step begins above the one ahead of it -/
def Rise (l : List Stp) : Prop := ∀ i, (h : i + 1 < l.length) → l[i].fr.val < l[i + 1].fr.val
def AllOk (l : List Stp) : Prop := ∀ i, (h : i < l.length) → l[i].ok
open Classical in
noncomputable def checkT (l : List Stp) : Int := if 32 < l.length then 3 else if l.length = 0 then 140 else if ¬ AllOk l then 20 else if ¬ Rise l then 140 else 0
/-- how many steps begin at or below x -/
def placeT (l : List Stp) (x : D) : Nat := l.countP fun s => decide (s.fr.val ≤ x.val)
def saysD (s : Stp) (x : D) : D × Int :=
  if (subD x s.fr).2 ≠ 0 then (D0, (subD x s.fr).2) else
  if (mulToD (subD x s.fr).1 s.rate (min 18 ((subD x s.fr).1.scale + s.rate.scale)) 2).2 ≠ 0 then (D0, (mulToD (subD x s.fr).1 s.rate (min 18 ((subD x s.fr).1.scale + s.rate.scale)) 2).2) else
  addD (mulToD (subD x s.fr).1 s.rate (min 18 ((subD x s.fr).1.scale + s.rate.scale)) 2).1 s.base
noncomputable def findT (l : List Stp) (x : D) : Int × Int := if checkT l ≠ 0 then (0, checkT l) else if ¬ x.ok then (0, 20) else if placeT l x = 0 then (0, 141) else ((placeT l x : Int) - 1, 0)
noncomputable def atT (l : List Stp) (x : D) : D × Int := if (findT l x).2 ≠ 0 then (D0, (findT l x).2) else match l[(findT l x).1.toNat]? with
  | some s => saysD s x
  | none => (D0, 0)
theorem Rise.lt {l : List Stp} (h : Rise l) : ∀ (d i : Nat), (hi : i + d + 1 < l.length) → l[i].fr.val < l[i + d + 1].fr.val
  | 0, i, hi => h i hi
  | d + 1, i, hi => by
    have h1 := Rise.lt h d i (by omega)
    have h2 := h (i + d + 1) (by omega)
    exact Int.lt_trans h1 h2
theorem Rise.mono {l : List Stp} (h : Rise l) {i j : Nat} (hij : i ≤ j) (hj : j < l.length) : l[i].fr.val ≤ l[j].fr.val := by
  rcases Nat.lt_or_eq_of_le hij with h1 | h1
  · have := h.lt (j - i - 1) i (by omega)
    have e : i + (j - i - 1) + 1 = j := by omega
    simp only [e] at this
    omega
  · subst h1; omega
theorem Rise.tail {s : Stp} {l : List Stp} (h : Rise (s :: l)) : Rise l := fun i hi => h (i + 1) (by simpa using hi)
end Go.AM

