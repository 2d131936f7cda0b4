/- Wide numbers: 320 bits. -/
import Derived.Test.YtdpnhedbggnhiaaGreatAmGU
set_option linter.unusedVariables false
set_option linter.unusedSimpArgs false
set_option maxRecDepth 100000
namespace Go.AM
/-- 2^320 -/
abbrev B5 : Int := 2135987035920910082395021706169552114602704522356652769947041607822219725780640550022962086936576
structure Wd where
  v : Int
  h : 0 ≤ v ∧ v < B5
theorem Wd.eq {a b : Wd} (h : a.v = b.v) : a = b := by
  cases a; cases b; simp only at h; subst h; rfl
instance : DecidableEq Wd := fun a b => if h : a.v = b.v then .isTrue (Wd.eq h) else .isFalse fun e => h (by rw [e])
def mkW (x : Int) : Wd := ⟨x % B5, by unfold B5; omega⟩
def m0 (a : Wd) : Int := a.v % 18446744073709551616
def m1 (a : Wd) : Int := a.v / 18446744073709551616 % 18446744073709551616
def m2 (a : Wd) : Int := a.v / 18446744073709551616 / 18446744073709551616 % 18446744073709551616
def m3 (a : Wd) : Int := a.v / 18446744073709551616 / 18446744073709551616 / 18446744073709551616 % 18446744073709551616
def m4 (a : Wd) : Int := a.v / 18446744073709551616 / 18446744073709551616 / 18446744073709551616 / 18446744073709551616 % 18446744073709551616
end Go.AM

set_option linter.unusedVariables false
set_option linter.unusedSimpArgs false
set_option maxRecDepth 100000
namespace Go.AM
structure Vl where
  kind : Int
  num : D
  flag : Bool
  text : ByteArray
  err : Int
  deriving DecidableEq
def Vl0 : Vl := ⟨0, D0, false, ⟨#[]⟩, 0⟩
def cV (v : Vl) : List Val := [.int .i64 v.kind, .bool v.num.neg, .int .u64 (l0 v.num.n), .int .u64 (l1 v.num.n), .int .u64 (l2 v.num.n), .int .u64 (l3 v.num.n), .int .i64 v.num.scale, .bool v.flag, .str v.text, .int .i64 v.err]
def eV (v : Vl) : Val := .agg (cV v)
structure Sm where
  rows : Int
  filled : Int
  blank : Int
  bad : Int
  err : Int
  total : Wd
  some : Bool
  min : D
  max : D
def numV (d : D) : Vl := ⟨1, d, false, ⟨#[]⟩, 0⟩
def errV (e : Int) : Vl := ⟨4, D0, false, ⟨#[]⟩, e⟩
def wI (x : Int) : Int := IntKind.i64.wrap x
def errJ (a b : Int) : Int := if b ≠ 0 ∧ (a = 0 ∨ b < a) then b else a
def minJ (a b : Sm) : D := if b.some = true ∧ (a.some = false ∨ cmpD b.min a.min < 0) then b.min else a.min
def maxJ (a b : Sm) : D := if b.some = true ∧ (a.some = false ∨ cmpD b.max a.max > 0) then b.max else a.max
def two (a b : Sm) : Sm := ⟨wI (a.rows + b.rows), wI (a.filled + b.filled), wI (a.blank + b.blank), wI (a.bad + b.bad), errJ a.err b.err, mkW (a.total.v + b.total.v), b.some || a.some, minJ a b, maxJ a b⟩
end Go.AM

