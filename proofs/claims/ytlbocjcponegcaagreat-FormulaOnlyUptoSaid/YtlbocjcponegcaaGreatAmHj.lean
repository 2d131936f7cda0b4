/- Expressions; what a formula comes to, as it is specified. -/
import Derived.Test.YtlbocjcponegcaaGreatAmGX
import Derived.Test.YtlbocjcponegcaaGreatAmGV
set_option linter.unusedVariables false
set_option linter.unusedSimpArgs false
set_option maxRecDepth 100000
namespace Go.AM
inductive Xp where
  | mk (kind op : Int) (name sect : ByteArray) (val : Vl) (scale pol : Int) (args : List Xp)
def Xp.kind : Xp → Int | .mk k _ _ _ _ _ _ _ => k
def Xp.op : Xp → Int | .mk _ o _ _ _ _ _ _ => o
def Xp.name : Xp → ByteArray | .mk _ _ n _ _ _ _ _ => n
def Xp.sect : Xp → ByteArray | .mk _ _ _ s _ _ _ _ => s
def Xp.val : Xp → Vl | .mk _ _ _ _ v _ _ _ => v
def Xp.scale : Xp → Int | .mk _ _ _ _ _ s _ _ => s
def Xp.pol : Xp → Int | .mk _ _ _ _ _ _ p _ => p
def Xp.args : Xp → List Xp | .mk _ _ _ _ _ _ _ a => a
theorem Xp.arg_lt {x y : Xp} (h : y ∈ x.args) : SizeOf.sizeOf y < SizeOf.sizeOf x := by
  cases x with
  | mk k o n s v sc p as =>
    have h : y ∈ as := h
    have := List.sizeOf_lt_of_mem h
    simp only [Xp.mk.sizeOf_spec]
    omega
theorem Xp.ind {Q : Xp → Prop} (h : ∀ x, (∀ y ∈ x.args, Q y) → Q x) (x : Xp) : Q x := h x fun y hy => Xp.ind h y
termination_by SizeOf.sizeOf x
decreasing_by exact Xp.arg_lt hy
mutual
/-- an expression's cells -/
def Xp.cells : Xp → List Val
  | .mk k o n s v sc p as => [.int .i64 k, .int .i64 o, .str n, .str s, .int .i64 v.kind, .bool v.num.neg, .int .u64 (l0 v.num.n), .int .u64 (l1 v.num.n), .int .u64 (l2 v.num.n), .int .u64 (l3 v.num.n), .int .i64 v.num.scale,
    .bool v.flag, .str v.text, .int .i64 v.err, .int .i64 sc, .int .i64 p, .ext 17 as.length (Xp.rows as)]
def Xp.rows : List Xp → Nat → List Val
  | [], _ => []
  | x :: _, 0 => x.cells
  | _ :: r, i + 1 => Xp.rows r i
end
def cE (x : Xp) : List Val := [.int .i64 x.kind, .int .i64 x.op, .str x.name, .str x.sect, .int .i64 x.val.kind, .bool x.val.num.neg, .int .u64 (l0 x.val.num.n), .int .u64 (l1 x.val.num.n), .int .u64 (l2 x.val.num.n), .int .u64 (l3 x.val.num.n), .int .i64 x.val.num.scale,
    .bool x.val.flag, .str x.val.text, .int .i64 x.val.err, .int .i64 x.scale, .int .i64 x.pol, .ext 17 x.args.length (Xp.rows x.args)]
def eE (x : Xp) : Val := .agg (cE x)
theorem Xp.cells_eq : ∀ x : Xp, x.cells = cE x | .mk .. => by unfold Xp.cells; rfl
theorem Xp.rows_ext : ∀ l : List Xp, ExtL cE l.length (Xp.rows l) l
  | [] => ⟨rfl, fun i h => absurd h (by simp)⟩
  | x :: l => by
    obtain ⟨_, h⟩ := Xp.rows_ext l
    refine ⟨rfl, fun i hi => ?_⟩
    cases i with
    | zero => show Xp.rows (x :: l) 0 = _; unfold Xp.rows; exact x.cells_eq
    | succ i => show Xp.rows (x :: l) (i + 1) = _; unfold Xp.rows; exact h i (by simpa using hi)
/-! ### what is read -/
section
variable {κ α : Type} [DecidableEq κ]
def aget (k : κ) : List (κ × α) → Option α
  | [] => none
  | p :: l => if p.1 = k then some p.2 else aget k l
def aput (k : κ) (v : α) : List (κ × α) → List (κ × α)
  | [] => [(k, v)]
  | p :: l => if p.1 = k then (k, v) :: l else p :: aput k v l
def encM (ek : κ → List Leaf) (ev : α → List Val) (l : List (κ × α)) : List MEnt := l.map fun p => (ek p.1, ev p.2)
theorem mfind_enc {ek : κ → List Leaf} {ev : α → List Val} (hi : ∀ a b, ek a = ek b → a = b) (k : κ) : ∀ l : List (κ × α), mfind (ek k) (encM ek ev l) = (aget k l).map ev
  | [] => rfl
  | p :: l => by
    show mfind (ek k) ((ek p.1, ev p.2) :: encM ek ev l) = _
    unfold mfind aget
    by_cases h : p.1 = k
    · rw [decT (by rw [h]), if_pos h]; rfl
    · rw [decF (fun e => h (hi _ _ e)), if_neg h]; exact mfind_enc hi k l
theorem mput_enc {ek : κ → List Leaf} {ev : α → List Val} (hi : ∀ a b, ek a = ek b → a = b) (k : κ) (v : α) : ∀ l : List (κ × α), mput (ek k) (ev v) (encM ek ev l) = encM ek ev (aput k v l)
  | [] => rfl
  | p :: l => by
    show mput (ek k) (ev v) ((ek p.1, ev p.2) :: encM ek ev l) = _
    unfold mput aput
    by_cases h : p.1 = k
    · rw [decT (by rw [h]), if_pos h]; rfl
    · rw [decF (fun e => h (hi _ _ e)), if_neg h]; simp only [encM, List.map_cons]; congr 1; exact mput_enc hi k v l
theorem aget_mem {k : κ} {v : α} : ∀ {l : List (κ × α)}, aget k l = some v → (k, v) ∈ l
  | [], h => by cases h
  | p :: l, h => by
    unfold aget at h
    split at h
    · rename_i e; simp only [Option.some.injEq] at h; subst e; subst h; exact List.mem_cons_self ..
    · exact List.mem_cons_of_mem _ (aget_mem h)
theorem aput_mem {k : κ} {v : α} {q : κ × α} : ∀ {l : List (κ × α)}, q ∈ aput k v l → q = (k, v) ∨ q ∈ l
  | [], h => by simp only [aput, List.mem_singleton] at h; exact .inl h
  | p :: l, h => by
    unfold aput at h
    split at h
    · rcases List.mem_cons.1 h with h | h
      · exact .inl h
      · exact .inr (List.mem_cons_of_mem _ h)
    · rcases List.mem_cons.1 h with h | h
      · subst h; exact .inr (List.mem_cons_self ..)
      · rcases aput_mem h with h | h
        · exact .inl h
        · exact .inr (List.mem_cons_of_mem _ h)
end
def kN (k : ByteArray) : List Leaf := [.s k]
theorem kN_inj (a b : ByteArray) (h : kN a = kN b) : a = b := by simpa [kN] using h
abbrev CK := ByteArray × ByteArray
def kC (k : CK) : List Leaf := [.s k.1, .s k.2]
theorem kC_inj (a b : CK) (h : kC a = kC b) : a = b := by
  simp only [kC, List.cons.injEq, Leaf.s.injEq, and_true] at h
  exact Prod.ext h.1 h.2
abbrev Cl := Sm × Int
def cCl (c : Cl) : List Val := cS c.1 ++ [.int .i64 c.2]
structure EnvS where
  names : List (ByteArray × Vl)
  cols : List (CK × Cl)
  tabs : List Tb
def EnvS.name (e : EnvS) (k : ByteArray) : Vl := (aget k e.names).getD Vl0
def EnvS.col (e : EnvS) (k : CK) : Cl := (aget k e.cols).getD (Sm0, 0)
def argsN (k : Int) : Int := if k = 1 ∨ k = 2 ∨ k = 10 then 0 else if k = 3 ∨ k = 4 ∨ k = 7 ∨ k = 8 ∨ k = 9 then 1 else if k = 5 then 2 else if k = 6 then 3 else -1
def colK (op : Int) (sect name : ByteArray) : CK := if op = 16 then (sect, ByteArray.empty) else (sect, name)
noncomputable def tableV (name : ByteArray) (v : Vl) (tabs : List Tb) : Vl :=
  if (mayV v).kind = 4 then mayV v else if (mayV v).kind = 0 then errV 3 else if (mayV v).kind = 1 then match tabs.find? fun t => decide (t.name = name) with
    | some t => if (atT t.steps (mayV v).num).2 = 0 then numV (atT t.steps (mayV v).num).1 else if (atT t.steps (mayV v).num).2 = 141 then errV 5 else if (atT t.steps (mayV v).num).2 = 7 then errV 1 else errV 2
    | none => errV 2
  else errV 2
noncomputable def nodeV (env : EnvS) (k o : Int) (n s : ByteArray) (v : Vl) (sc p : Int) (as : List Vl) : Vl :=
  if (as.length : Int) ≠ argsN k then errV 2 else
  if k = 1 then mayV v else if k = 2 then mayV (env.name n) else if k = 3 then negV (as.getD 0 Vl0) else if k = 4 then notV (as.getD 0 Vl0) else if k = 9 then blankV (as.getD 0 Vl0) else
  if k = 7 then roundV (as.getD 0 Vl0) sc p else if k = 5 then opV o (as.getD 0 Vl0) (as.getD 1 Vl0) else if k = 6 then ifV (as.getD 0 Vl0) (as.getD 1 Vl0) (as.getD 2 Vl0) else if k = 8 then tableV n (as.getD 0 Vl0) env.tabs else
  mayV (aggV o (env.col (colK o s n)).1 (env.col (colK o s n)).2)
mutual
noncomputable def evalE (env : EnvS) : Xp → Vl
  | .mk k o n s v sc p as => nodeV env k o n s v sc p (evalL env as)
noncomputable def evalL (env : EnvS) : List Xp → List Vl
  | [] => []
  | x :: r => evalE env x :: evalL env r
end
theorem evalE_eq (env : EnvS) : ∀ x : Xp, evalE env x = nodeV env x.kind x.op x.name x.sect x.val x.scale x.pol (x.args.map (evalE env))
  | .mk k o n s v sc p as => by
    have h : ∀ l : List Xp, evalL env l = l.map (evalE env) := fun l => by
      induction l with
      | nil => unfold evalL; rfl
      | cons x l ih => unfold evalL; rw [ih]; rfl
    unfold evalE
    rw [h]; rfl
/-- how many nodes; one that is too deep counts for very many -/
def wrapI (x : Int) : Int := IntKind.i64.wrap x
mutual
def sizeE : Nat → Xp → Int
  | 0, _ => 10000
  | d + 1, .mk _ _ _ _ _ _ _ as => sizeL d 1 as
def sizeL : Nat → Int → List Xp → Int
  | _, n, [] => n
  | d, n, x :: r => sizeL d (wrapI (n + sizeE d x)) r
end
end Go.AM

set_option linter.unusedVariables false
set_option linter.unusedSimpArgs false
set_option maxRecDepth 100000
namespace Go.AM
/-- where the first table of a name stands, from k on; -1: there is none -/
def idxT (name : ByteArray) : Nat → List Tb → Int
  | _, [] => -1
  | k, t :: r => if t.name = name then (k : Int) else idxT name (k + 1) r
theorem idxT_find (name : ByteArray) : ∀ (k : Nat) (l : List Tb), ((l.find? fun t => decide (t.name = name)) = none ∧ idxT name k l = -1) ∨ ∃ j t, l[j]? = some t ∧ (l.find? fun t => decide (t.name = name)) = some t ∧ idxT name k l = ((k + j : Nat) : Int)
  | k, [] => .inl ⟨rfl, rfl⟩
  | k, t :: r => by
    by_cases h : t.name = name
    · refine .inr ⟨0, t, rfl, ?_, ?_⟩
      · rw [List.find?_cons_of_pos (by simpa using h)]
      · unfold idxT; rw [if_pos h]; rfl
    · have e1 : (t :: r).find? (fun t => decide (t.name = name)) = r.find? (fun t => decide (t.name = name)) := List.find?_cons_of_neg (by simpa using h)
      have e2 : idxT name k (t :: r) = idxT name (k + 1) r := by show (if t.name = name then (k : Int) else idxT name (k + 1) r) = _; rw [if_neg h]
      rw [e1, e2]
      rcases idxT_find name (k + 1) r with ⟨h1, h2⟩ | ⟨j, t', h1, h2, h3⟩
      · exact .inl ⟨h1, h2⟩
      · exact .inr ⟨j + 1, t', by simpa using h1, h2, by rw [h3]; congr 1; omega⟩
theorem extL_getL {α : Type} (enc : α → List Val) (l : List α) : ExtL enc l.length (getL enc l) l := ⟨rfl, fun i hi => getL_at (List.getElem?_eq_getElem hi)⟩
/-- an environment's value, its blocks: 'true': the map is nil -/
def envV (b1 b2 : Bool) (e : EnvS) : Val := match b1, b2 with
  | true, true => .agg [.nilm, .nilm, eL 2 cTb e.tabs]
  | true, false => .agg [.nilm, .map 0, eL 2 cTb e.tabs]
  | false, true => .agg [.map 0, .nilm, eL 2 cTb e.tabs]
  | false, false => .agg [.map 0, .map 1, eL 2 cTb e.tabs]
def mapN (e : EnvS) : Blk := .map false true [.s] (encM kN cV e.names)
def mapC (e : EnvS) : Blk := .map true true [.s, .s] (encM kC cCl e.cols)
def envH (b1 b2 : Bool) (e : EnvS) : List Blk := match b1, b2 with
  | true, true => []
  | true, false => [mapC e]
  | false, true => [mapN e]
  | false, false => [mapN e, mapC e]
structure EnvOk (b1 b2 : Bool) (e : EnvS) : Prop where
  names : b1 = true → e.names = []
  cols : b2 = true → e.cols = []
  tabs : e.tabs.length ≤ 9223372036854775807
  sums : ∀ c, I64' (e.col c).1.rows ∧ I64' (e.col c).1.filled
theorem rows1 (a : Xp) : Xp.rows [a] 0 = cE a := (Xp.rows_ext [a]).2 0 (by simp)
theorem rows2 (a b : Xp) : Xp.rows [a, b] 0 = cE a ∧ Xp.rows [a, b] 1 = cE b := ⟨(Xp.rows_ext [a, b]).2 0 (by simp), (Xp.rows_ext [a, b]).2 1 (by simp)⟩
theorem rows3 (a b c : Xp) : Xp.rows [a, b, c] 0 = cE a ∧ Xp.rows [a, b, c] 1 = cE b ∧ Xp.rows [a, b, c] 2 = cE c := ⟨(Xp.rows_ext [a, b, c]).2 0 (by simp), (Xp.rows_ext [a, b, c]).2 1 (by simp), (Xp.rows_ext [a, b, c]).2 2 (by simp)⟩
theorem sizeL_cons (d : Nat) (n : Int) (x : Xp) (r : List Xp) : sizeL d n (x :: r) = sizeL d (wrapI (n + sizeE d x)) r := by rw [sizeL]
/-- an item of a section -/
structure It where
  name : ByteArray
  kind : Int
  tk : Int
  ts : Int
  need : Bool
  pol : Int
  expr : Xp
def cIt (i : It) : List Val := [.str i.name, .int .i64 i.kind, .int .i64 i.tk, .int .i64 i.ts, .bool i.need, .int .i64 i.pol] ++ cE i.expr
theorem nodeV_bad {env : EnvS} {k o : Int} {n s : ByteArray} {v : Vl} {sc p : Int} {as : List Vl} (h : (as.length : Int) ≠ argsN k) : nodeV env k o n s v sc p as = errV 2 := if_pos h
theorem args0 {k : Int} (h : argsN k = 0) : k = 1 ∨ k = 2 ∨ k = 10 := by unfold argsN at h; repeat' split at h; all_goals omega
theorem args1 {k : Int} (h : argsN k = 1) : k = 3 ∨ k = 4 ∨ k = 7 ∨ k = 8 ∨ k = 9 := by unfold argsN at h; repeat' split at h; all_goals omega
theorem args2 {k : Int} (h : argsN k = 2) : k = 5 := by unfold argsN at h; repeat' split at h; all_goals omega
theorem args3 {k : Int} (h : argsN k = 3) : k = 6 := by unfold argsN at h; repeat' split at h; all_goals omega
theorem argsN_le (k : Int) : argsN k ≤ 3 := by unfold argsN; repeat' split; all_goals omega
/-! ### what a formula reads, in rows -/
abbrev Nm := ByteArray × Vl
abbrev Co := CK × Cl
def cNm (p : Nm) : List Val := .str p.1 :: cV p.2
def cCo (p : Co) : List Val := .str p.1.1 :: .str p.1.2 :: cCl p.2
structure Rd where
  names : List Nm
  cols : List Co
  tabs : List Tb
def eRd (r : Rd) : Val := .agg [eL 11 cNm r.names, eL 26 cCo r.cols, eL 2 cTb r.tabs]
def putAll {κ α : Type} [DecidableEq κ] (m : List (κ × α)) : List (κ × α) → List (κ × α)
  | [] => m
  | p :: l => putAll (aput p.1 p.2 m) l
def Rd.env (r : Rd) : EnvS := ⟨putAll [] r.names, putAll [] r.cols, r.tabs⟩
def nilB {α : Type} : List α → Bool
  | [] => true
  | _ => false
end Go.AM

