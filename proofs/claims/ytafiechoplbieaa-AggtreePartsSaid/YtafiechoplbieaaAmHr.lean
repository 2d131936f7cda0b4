/- An expression folded, as it is specified; folding changes nothing; how many nodes. -/
import Derived.Test.YtafiechoplbieaaAmEx3
import Derived.Test.YtafiechoplbieaaAmHi
import Derived.Test.YtafiechoplbieaaAmHn
import Derived.Test.YtafiechoplbieaaAmGV
set_option linter.unusedVariables false
set_option linter.unusedSimpArgs false
set_option maxRecDepth 100000
namespace Go.AM
def constX (x : Xp) : Bool := decide (x.kind = 1) && decide (x.args.length = 0)
def c0 (v : Vl) : Xp := .mk 1 0 ByteArray.empty ByteArray.empty v 0 0 []
def xp0 : Xp := c0 Vl0
def env0 (tabs : List Tb) : EnvS := ⟨[], [], tabs⟩
noncomputable def foldN (tabs : List Tb) (k o : Int) (n s : ByteArray) (v : Vl) (sc p : Int) (l : List Xp) : Xp :=
  if (l.length : Int) ≠ argsN k then .mk k o n s v sc p l else
  if k = 6 ∧ constX (l.getD 0 xp0) = true ∧ (l.getD 0 xp0).val.valid ∧ (l.getD 0 xp0).val.kind = 2 ∧ l.all constX = false then (if (l.getD 0 xp0).val.flag then l.getD 1 xp0 else l.getD 2 xp0) else
  if l.all constX = false ∨ k = 2 ∨ k = 10 then .mk k o n s v sc p l else c0 (evalE (env0 tabs) (.mk k o n s v sc p l))
mutual
noncomputable def foldE (tabs : List Tb) : Xp → Xp
  | .mk k o n s v sc p l => foldN tabs k o n s v sc p (foldL tabs l)
noncomputable def foldL (tabs : List Tb) : List Xp → List Xp
  | [] => []
  | x :: r => foldE tabs x :: foldL tabs r
end
/-! ### how many nodes -/
mutual
def cntX : Xp → Nat
  | .mk _ _ _ _ _ _ _ l => 1 + cntL l
def cntL : List Xp → Nat
  | [] => 0
  | x :: r => cntX x + cntL r
end
mutual
def depX : Xp → Nat
  | .mk _ _ _ _ _ _ _ l => 1 + depL l
def depL : List Xp → Nat
  | [] => 0
  | x :: r => max (depX x) (depL r)
end
end Go.AM

set_option linter.unusedVariables false
set_option linter.unusedSimpArgs false
set_option maxRecDepth 100000
namespace Go.AM
/-- every list of arguments has room -/
inductive Xp.Lens : Xp → Prop
  | mk (x : Xp) (h : x.args.length * 176 ≤ 140737488355328) (ha : ∀ y, y ∈ x.args → Xp.Lens y) : Xp.Lens x
theorem Xp.Lens.one {x : Xp} (h : x.Lens) : x.args.length * 176 ≤ 140737488355328 := by cases h; assumption
theorem Xp.Lens.arg {x y : Xp} (h : x.Lens) (hy : y ∈ x.args) : y.Lens := by cases h with | mk _ _ ha => exact ha y hy
theorem le_ext' {sz n : Nat} {g g' : Nat → List Val} {c : List Val} (h : ∀ i, i < n → g i = g' i) : ∀ {c : List Val}, LeL (c ++ [.ext sz n g]) (c ++ [.ext sz n g'])
  | [] => .cons (le_ext h) .nil
  | v :: c => .cons (.refl v) (le_ext' (c := c) h)
section
variable {P : Program} {f : FuncId} {as' : List Val} {k o : Int} {n s : ByteArray} {v : Vl} {sc p : Int}
abbrev hdX (k o : Int) (n s : ByteArray) (v : Vl) (sc p : Int) : List Val := [.int .i64 k, .int .i64 o, .str n, .str s, .int .i64 v.kind, .bool v.num.neg, .int .u64 (l0 v.num.n), .int .u64 (l1 v.num.n), .int .u64 (l2 v.num.n), .int .u64 (l3 v.num.n), .int .i64 v.num.scale,
    .bool v.flag, .str v.text, .int .i64 v.err, .int .i64 sc, .int .i64 p]
/-- an expression handed in with another make of its arguments -/
theorem Ret.ex {rest : List Val} {m : List Xp} {g : Nat → List Val} {w : Val} (hr : Ret P f (eE (.mk k o n s v sc p m) :: rest) [] w []) (hg : ∀ i, i < m.length → g i = Xp.rows m i) : Ret P f (.agg (hdX k o n s v sc p ++ [.ext 17 m.length g]) :: rest) [] w [] :=
  hr.le (.cons (le_agg (le_ext' (c := []) hg)) (.refl _))
end
end Go.AM

