/- Expressions; what a formula comes to, as it is specified. -/
import Derived.Test.YtafiechoplbieaaAmGX
import Derived.Test.YtafiechoplbieaaAmGV
set_option linter.unusedVariables false
set_option linter.unusedSimpArgs false
set_option maxRecDepth 100000
namespace Go.AM
inductive Xp where
  | mk (kind op : Int) (name sect : ByteArray) (val : Vl) (scale pol : Int) (args : List Xp)
def Xp.kind : Xp → Int | .mk k _ _ _ _ _ _ _ => k
def Xp.op : Xp → Int | .mk _ o _ _ _ _ _ _ => o
def Xp.name : Xp → ByteArray | .mk _ _ n _ _ _ _ _ => n
def Xp.sect : Xp → ByteArray | .mk _ _ _ s _ _ _ _ => s
def Xp.val : Xp → Vl | .mk _ _ _ _ v _ _ _ => v
def Xp.scale : Xp → Int | .mk _ _ _ _ _ s _ _ => s
def Xp.pol : Xp → Int | .mk _ _ _ _ _ _ p _ => p
def Xp.args : Xp → List Xp | .mk _ _ _ _ _ _ _ a => a
theorem Xp.arg_lt {x y : Xp} (h : y ∈ x.args) : SizeOf.sizeOf y < SizeOf.sizeOf x := by
  cases x with
  | mk k o n s v sc p as =>
    have h : y ∈ as := h
    have := List.sizeOf_lt_of_mem h
    simp only [Xp.mk.sizeOf_spec]
    omega
theorem Xp.ind {Q : Xp → Prop} (h : ∀ x, (∀ y ∈ x.args, Q y) → Q x) (x : Xp) : Q x := h x fun y hy => Xp.ind h y
termination_by SizeOf.sizeOf x
decreasing_by exact Xp.arg_lt hy
mutual
/-- an expression's cells -/
def Xp.cells : Xp → List Val
  | .mk k o n s v sc p as => [.int .i64 k, .int .i64 o, .str n, .str s, .int .i64 v.kind, .bool v.num.neg, .int .u64 (l0 v.num.n), .int .u64 (l1 v.num.n), .int .u64 (l2 v.num.n), .int .u64 (l3 v.num.n), .int .i64 v.num.scale,
    .bool v.flag, .str v.text, .int .i64 v.err, .int .i64 sc, .int .i64 p, .ext 17 as.length (Xp.rows as)]
def Xp.rows : List Xp → Nat → List Val
  | [], _ => []
  | x :: _, 0 => x.cells
  | _ :: r, i + 1 => Xp.rows r i
end
def cE (x : Xp) : List Val := [.int .i64 x.kind, .int .i64 x.op, .str x.name, .str x.sect, .int .i64 x.val.kind, .bool x.val.num.neg, .int .u64 (l0 x.val.num.n), .int .u64 (l1 x.val.num.n), .int .u64 (l2 x.val.num.n), .int .u64 (l3 x.val.num.n), .int .i64 x.val.num.scale,
    .bool x.val.flag, .str x.val.text, .int .i64 x.val.err, .int .i64 x.scale, .int .i64 x.pol, .ext 17 x.args.length (Xp.rows x.args)]
def eE (x : Xp) : Val := .agg (cE x)
/-! ### what is read -/
section
variable {κ α : Type} [DecidableEq κ]
def aget (k : κ) : List (κ × α) → Option α
  | [] => none
  | p :: l => if p.1 = k then some p.2 else aget k l
def aput (k : κ) (v : α) : List (κ × α) → List (κ × α)
  | [] => [(k, v)]
  | p :: l => if p.1 = k then (k, v) :: l else p :: aput k v l
theorem aget_mem {k : κ} {v : α} : ∀ {l : List (κ × α)}, aget k l = some v → (k, v) ∈ l
  | [], h => by cases h
  | p :: l, h => by
    unfold aget at h
    split at h
    · rename_i e; simp only [Option.some.injEq] at h; subst e; subst h; exact List.mem_cons_self ..
    · exact List.mem_cons_of_mem _ (aget_mem h)
end
abbrev CK := ByteArray × ByteArray
abbrev Cl := Sm × Int
structure EnvS where
  names : List (ByteArray × Vl)
  cols : List (CK × Cl)
  tabs : List Tb
def EnvS.name (e : EnvS) (k : ByteArray) : Vl := (aget k e.names).getD Vl0
def EnvS.col (e : EnvS) (k : CK) : Cl := (aget k e.cols).getD (Sm0, 0)
def argsN (k : Int) : Int := if k = 1 ∨ k = 2 ∨ k = 10 then 0 else if k = 3 ∨ k = 4 ∨ k = 7 ∨ k = 8 ∨ k = 9 then 1 else if k = 5 then 2 else if k = 6 then 3 else -1
def colK (op : Int) (sect name : ByteArray) : CK := if op = 16 then (sect, ByteArray.empty) else (sect, name)
noncomputable def tableV (name : ByteArray) (v : Vl) (tabs : List Tb) : Vl :=
  if (mayV v).kind = 4 then mayV v else if (mayV v).kind = 0 then errV 3 else if (mayV v).kind = 1 then match tabs.find? fun t => decide (t.name = name) with
    | some t => if (atT t.steps (mayV v).num).2 = 0 then numV (atT t.steps (mayV v).num).1 else if (atT t.steps (mayV v).num).2 = 141 then errV 5 else if (atT t.steps (mayV v).num).2 = 7 then errV 1 else errV 2
    | none => errV 2
  else errV 2
noncomputable def nodeV (env : EnvS) (k o : Int) (n s : ByteArray) (v : Vl) (sc p : Int) (as : List Vl) : Vl :=
  if (as.length : Int) ≠ argsN k then errV 2 else
  if k = 1 then mayV v else if k = 2 then mayV (env.name n) else if k = 3 then negV (as.getD 0 Vl0) else if k = 4 then notV (as.getD 0 Vl0) else if k = 9 then blankV (as.getD 0 Vl0) else
  if k = 7 then roundV (as.getD 0 Vl0) sc p else if k = 5 then opV o (as.getD 0 Vl0) (as.getD 1 Vl0) else if k = 6 then ifV (as.getD 0 Vl0) (as.getD 1 Vl0) (as.getD 2 Vl0) else if k = 8 then tableV n (as.getD 0 Vl0) env.tabs else
  mayV (aggV o (env.col (colK o s n)).1 (env.col (colK o s n)).2)
mutual
noncomputable def evalE (env : EnvS) : Xp → Vl
  | .mk k o n s v sc p as => nodeV env k o n s v sc p (evalL env as)
noncomputable def evalL (env : EnvS) : List Xp → List Vl
  | [] => []
  | x :: r => evalE env x :: evalL env r
end
/-- how many nodes; one that is too deep counts for very many -/
def wrapI (x : Int) : Int := IntKind.i64.wrap x
mutual
def sizeE : Nat → Xp → Int
  | 0, _ => 10000
  | d + 1, .mk _ _ _ _ _ _ _ as => sizeL d 1 as
def sizeL : Nat → Int → List Xp → Int
  | _, n, [] => n
  | d, n, x :: r => sizeL d (wrapI (n + sizeE d x)) r
end
end Go.AM

set_option linter.unusedVariables false
set_option linter.unusedSimpArgs false
set_option maxRecDepth 100000
namespace Go.AM
/-- where the first table of a name stands, from k on; -1: there is none -/
def idxT (name : ByteArray) : Nat → List Tb → Int
  | _, [] => -1
  | k, t :: r => if t.name = name then (k : Int) else idxT name (k + 1) r
/-- an item of a section -/
structure It where
  name : ByteArray
  kind : Int
  tk : Int
  ts : Int
  need : Bool
  pol : Int
  expr : Xp
def cIt (i : It) : List Val := [.str i.name, .int .i64 i.kind, .int .i64 i.tk, .int .i64 i.ts, .bool i.need, .int .i64 i.pol] ++ cE i.expr
/-! ### what a formula reads, in rows -/
abbrev Nm := ByteArray × Vl
abbrev Co := CK × Cl
structure Rd where
  names : List Nm
  cols : List Co
  tabs : List Tb
def putAll {κ α : Type} [DecidableEq κ] (m : List (κ × α)) : List (κ × α) → List (κ × α)
  | [] => m
  | p :: l => putAll (aput p.1 p.2 m) l
def Rd.env (r : Rd) : EnvS := ⟨putAll [] r.names, putAll [] r.cols, r.tabs⟩
end Go.AM

