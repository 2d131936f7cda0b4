/- The abstract machine's programs: regions, branches, loops, calls. Definitions alone. -/
import Derived.Test.YtkglccolonpnlaaAmOps9
import Derived.Tactics
import Derived.Orders
import Derived.Scope
set_option linter.unusedVariables false
set_option linter.unusedSimpArgs false
set_option maxRecDepth 100000
namespace Go.AM
noncomputable section

inductive Ex where
  | normal
  | exit (id : Nat)
  | goto (l : Nat)
  | ret

def getBK {α : Type} : List Blk → Nat → (Blk → α) → α
  | [], _, K => K .gone
  | x :: _, 0, K => K x
  | _ :: l, n + 1, K => getBK l n K
def setBK : List Blk → Nat → Blk → (List Blk → Prop) → Prop
  | [], 0, x, K => K [x]
  | [], _ + 1, _, _ => False
  | _ :: l, 0, x, K => K (x :: l)
  | y :: l, n + 1, x, K => setBK l n x fun l' => K (y :: l')
def updK : List Blk → Upd → (List Blk → Prop) → Prop
  | hp, [], K => K hp
  | hp, (b, x) :: u, K => setBK hp b x fun hp' => updK hp' u K
/-- One more thing that is needed. -/
def more (o : Option Prop) (p : Prop) : Option Prop := match o with
  | none => some p
  | some q => some (q ∧ p)
/- What a walk stops at: each is a structure, so that 'whnf' stands still there. -/
/-- Something must hold. -/
structure Need (p G : Prop) : Prop where
  here : p
  rest : G
/-- A truth value decides. -/
structure Pick (b : Bool) (K : Bool → Prop) : Prop where
  yes : b = true → K true
  no : b = false → K false
def needK (o : Option Prop) (G : Prop) : Prop := match o with
  | none => G
  | some p => Need p G
/-- What is needed is gathered, and asked for at the end: so that no step of the run stands behind an '∧'. -/
def Prog.runL : Prog → List Blk → List Nat → Option Prop → (Val → Upd → List Nat → Option Prop → Prop) → Prop
  | .ret v u, _, r, o, K => K v u r o
  | .get b k, hp, r, o, K => getBK hp b fun x => (k x).runL hp (b :: r) o K
  | @Prog.need p _ k, hp, r, o, K => k.runL hp r (more o p) K
  | .fail, _, _, _, _ => False
def ids : List Nat := [0, 1, 2, 3, 4, 5, 6, 7, 8, 9, 10, 11, 12, 13, 14, 15, 16, 17, 18, 19, 20, 21, 22, 23, 24, 25, 26, 27, 28, 29, 30, 31, 32, 33, 34, 35, 36, 37, 38, 39, 40, 41, 42, 43, 44, 45, 46, 47, 48, 49, 50, 51, 52, 53, 54, 55, 56, 57, 58, 59, 60, 61, 62, 63, 64, 65, 66, 67, 68, 69, 70, 71, 72, 73, 74, 75, 76, 77, 78, 79, 80, 81, 82, 83, 84, 85, 86, 87, 88, 89, 90, 91, 92, 93, 94, 95, 96, 97, 98, 99]
def lenK : List Blk → List Nat → (Nat → Prop) → Prop
  | [], i :: _, K => K i
  | _ :: l, _ :: is, K => lenK l is K
  | _, [], _ => False

/-! ### blocks under other names -/
mutual
def renV (σ : Nat → Option Nat) : Val → Val
  | .ptr b off => match σ b with | some b' => .ptr b' off | none => .und
  | .ep b sz i j => match σ b with | some b' => .ep b' sz i j | none => .und
  | .row b n => match σ b with | some b' => .row b' n | none => .und
  | .asl b off n => match σ b with | some b' => .asl b' off n | none => .und
  | .map b => match σ b with | some b' => .map b' | none => .und
  | .fn f fs cs => .fn f (renL σ fs) (renL σ cs)
  | .ifc t v => .ifc t (renV σ v)
  | .agg cs => .agg (renL σ cs)
  | .tup vs => .tup (renL σ vs)
  | .bool b => .bool b
  | .int k n => .int k n
  | .str s => .str s
  | .rptr cs => .rptr cs
  | .nilp => .nilp
  | .ext sz n g => .ext sz n g
  | .nils => .nils
  | .emp => .emp
  | .nilf => .nilf
  | .nilm => .nilm
  | .nili => .nili
  | .und => .und
def renL (σ : Nat → Option Nat) : List Val → List Val
  | [] => []
  | v :: vs => renV σ v :: renL σ vs
end
def renB (σ : Nat → Option Nat) : Blk → Blk
  | .cells cs => .cells (renL σ cs)
  | .row e sz n g pr => .row e sz n g pr
  | .map a b ks es => .map a b ks es
  | .gone => .gone
/-- where k stands in a list -/
def idx : List Nat → Nat → Option Nat
  | [], _ => none
  | x :: l, k => match x == k with
    | true => some 0
    | false => match idx l k with
      | some i => some (i + 1)
      | none => none
def nodupB : List Nat → Bool
  | [] => true
  | x :: l => !(l.elem x) && nodupB l
def pickK (σ : Nat → Option Nat) (hp : List Blk) : List Nat → (List Blk → Prop) → Prop
  | [], K => K []
  | k :: ks, K => getBK hp k fun x => pickK σ hp ks fun l => K (renB σ x :: l)
def maskK (σ : Nat → Option Nat) : List Val → List Bool → (List Val → Prop) → Prop
  | [], _, K => K []
  | _ :: tm, [], K => maskK σ tm [] fun l => K (.und :: l)
  | _ :: tm, false :: m, K => maskK σ tm m fun l => K (.und :: l)
  | v :: tm, true :: m, K => maskK σ tm m fun l => K (renV σ v :: l)
/-- The blocks ks, under new names. -/
def sel (ks : List Nat) (hp : List Blk) : List Blk := ks.map fun k => renB (idx ks) (getBK hp k id)
/-- The blocks ks alone, the temporaries of the mask alone. -/
def gcK (ks : List Nat) (m : List Bool) (tm : List Val) (hp : List Blk) (K : List Val → List Blk → Prop) : Prop :=
  pickK (idx ks) hp ks fun hp' => maskK (idx ks) tm m fun tm' => K tm' hp'

/-! ### calls -/
def getH (h : List Blk) (b : Nat) : Blk := h.getD b .gone
def handed (ι : Map) (h : List Blk) (g : Nat) : Prop := ∃ b c, b < h.length ∧ getH h b ≠ .gone ∧ ι b = some (g, c)
/-- What a call of the function does: handed the values args and the blocks h, it hands back v; the blocks are h' then (those of h first). -/
def Ret (P : Program) (f : FuncId) (args : List Val) (h : List Blk) (v : Val) (h' : List Blk) : Prop :=
  (∃ fn c, P.funcs[f]? = some fn ∧ (fn.name == "runtime.NumGoroutine") = false ∧ fn.body = some c) ∧
  ∀ ι φ w cargs, (∀ b, h.length ≤ b → ι b = none) → Sim ι φ (getH h) w → TmOk ι φ args cargs →
    Calls P f cargs w fun e w' => ∃ cv ι' φ', e = .returned cv ∧ MapLe ι ι' ∧ Inv w (handed ι h) φ ι' φ' (getH h') w' ∧ Rel ι' φ' v cv ∧ ∀ b, h'.length ≤ b → ι' b = none

def closedA : Val → Bool
  | .agg cs => closedL cs
  | v => closed v
def closedAs : List Val → Bool
  | [] => true
  | v :: vs => closedA v && closedAs vs
/-- A row becomes outer memory (its cells are to be such as are never written again). -/
def lentK (hp : List Blk) (r : List Nat) (o : Option Prop) (v : Val) (K : Val → List Nat → Option Prop → Prop) : Prop :=
  match v with
  | .row b n => getBK hp b fun x => match x with
    | .row _ sz m g pr => K (.ext sz n g) (b :: r) (more o (n ≤ m ∧ n ≤ pr))
    | _ => False
  | v => K v r o
def lentLK (hp : List Blk) (r : List Nat) (o : Option Prop) : List Val → (List Val → List Nat → Option Prop → Prop) → Prop
  | [], K => K [] r o
  | v :: vs, K => lentK hp r o v fun v' r' o' => lentLK hp r' o' vs fun l r'' o'' => K (v' :: l) r'' o''
def lentAK (hp : List Blk) (r : List Nat) (o : Option Prop) (v : Val) (K : Val → List Nat → Option Prop → Prop) : Prop :=
  match v with
  | .agg cs => lentLK hp r o cs fun l r' o' => K (.agg l) r' o'
  | v => lentK hp r o v K
def lentAsK (hp : List Blk) (r : List Nat) (o : Option Prop) : List Val → (List Val → List Nat → Option Prop → Prop) → Prop
  | [], K => K [] r o
  | v :: vs, K => lentAK hp r o v fun v' r' o' => lentAsK hp r' o' vs fun l r'' o'' => K (v' :: l) r'' o''
def shift (nid : Nat) (b : Nat) : Option Nat := some (nid + b)
def newUpd (σ : Nat → Option Nat) : Nat → List Blk → Upd
  | _, [] => []
  | n, x :: l => (n, renB σ x) :: newUpd σ (n + 1) l
/-- What a call hands back, under the caller's names. -/
def newsK {α : Type} (nid : Nat) (v : Val) (h1 : List Blk) (K : Val → Upd → α) : α :=
  match h1 with
  | [] => K v []
  | x :: l => K (renV (shift nid) v) (newUpd (shift nid) nid (x :: l))
/-- A call, no block handed. -/
inductive Called (P : Program) (f : FuncId) (as : List Val) (K : Val → List Blk → Prop) : Prop
  | mk (v : Val) (h1 : List Blk) (hr : Ret P f as [] v h1) (hk : K v h1)
/-- The names that the caller has for the callee's blocks: those that it handed, and new ones. -/
def back (ks : List Nat) (nid j : Nat) : Option Nat := match ks[j]? with
  | some k => some k
  | none => some (nid + (j - ks.length))
def backUpd (σ : Nat → Option Nat) : List Nat → Nat → List Blk → Upd
  | _, _, [] => []
  | k :: ks, n, x :: l => (k, renB σ x) :: backUpd σ ks n l
  | [], n, x :: l => (n, renB σ x) :: backUpd σ [] (n + 1) l
def liveB : Blk → Bool
  | .gone => false
  | _ => true
def handB (hp : List Blk) (nid : Nat) (ks : List Nat) : Bool := nodupB ks && ks.all fun k => decide (k < nid) && liveB (getBK hp k id)
/-- A call to which the blocks ks are handed. -/
inductive CalledH (P : Program) (f : FuncId) (as : List Val) (hp : List Blk) (nid : Nat) (K : Val → Upd → List Nat → Prop) : Prop
  | mk (ks : List Nat) (v : Val) (h1 : List Blk) (hb : handB hp nid ks = true) (hl : ks.length ≤ h1.length) (hr : Ret P f (renL (idx ks) as) (sel ks hp) v h1)
      (hk : K (renV (back ks nid) v) (backUpd (back ks nid) ks nid h1) ks)
def callRun (P : Program) (fv : Val) (xs : List Val) (hp : List Blk) (nid : Nat) (K : Val → Upd → List Nat → Prop) : Prop :=
  match fv with
  | .fn f fs cs => appK fs xs fun a1 => appK a1 cs fun as => lentAsK hp [] none as fun as' r o => needK o <| match closedAs as' with
    | true => Called P f as' fun v h1 => newsK nid v h1 fun v u => K v u r
    | false => CalledH P f as' hp nid fun v u ks => K v u (ks ++ r)
  | _ => False
/-- What an operation puts into a row or a map: rows in it become outer memory. -/
def lentTK (hp : List Blk) : List Operand → List Nat → Option Prop → List Val → (List Val → List Nat → Option Prop → Prop) → Prop
  | [], r, o, tm, K => K tm r o
  | .tmp t :: xs, r, o, tm, K => getK tm t fun v => lentAK hp r o v fun v' r' o' => putK tm t v' fun tm' => lentTK hp xs r' o' tm' K
  | _ :: xs, r, o, tm, K => lentTK hp xs r o tm K
/-- the operands that are put there -/
def putsOf : Op → List Operand
  | .buildSlice _ _ ps => ps.toList.map Prod.snd
  | .mapUpdate _ _ _ v => [v]
  | .insert _ _ _ v => [v]
  | _ => []
def opRun (P : Program) (T : TypeId → TD) (o : Oper) (tm : List Val) (hp : List Blk) (K : Val → Upd → List Nat → Prop) : Prop :=
  lenK hp ids fun nid => match o.op with
    | .call c => match c.callee with
      | .value x => evK tm x fun fv => evsK tm c.args.toList fun xs => callRun P fv xs hp nid K
      | _ => (opP T o tm nid).runL hp [] none fun v u r o => needK o (K v u r)
    | _ => lentTK hp (putsOf o.op) [] none tm fun tm' r o' => (opP T o tm' nid).runL hp r o' fun v u r o => needK o (K v u r)

/-! ### regions -/
def dstK {α : Type} (all : List Oper) (j : Nat) (K : Option Tmp → α) : α :=
  match all, j with
  | [], _ => K none
  | o :: _, 0 => K o.dst
  | _ :: l, j + 1 => dstK l j K
/-- Is the operation carried out? -/
def wantK (all : List Oper) (o : Oper) (tm : List Val) (K : Bool → List Val → Prop) : Prop :=
  match o.guard with
  | none => K true tm
  | some (j, want) => dstK all j fun d => match d with
    | none => K false tm
    | some d => getK tm d fun v => match v with
      | .bool b => Pick b fun b => putK tm d (.bool b) fun tm' => K (b == want) tm'
      | .tup [] => K false tm
      | _ => False
def putDK {α : Type} (tm : List Val) (d : Option Tmp) (v : Val) (K : List Val → α) : α :=
  match d with
  | none => K tm
  | some t => putK tm t v K
/- In what follows the rest of the run ('C', 'K') is named once in each definition: the kernel compares it once. -/
/-- All rows are to be written no more. -/
def raiseB : Blk → Blk
  | .row e sz n g _ => .row e sz n g n
  | b => b
def raiseC {α : Type} (x : Blk) (k : Blk → α) : α := match x with
  | .row e sz n g _ => k (.row e sz n g n)
  | .cells cs => k (.cells cs)
  | .map a b ks es => k (.map a b ks es)
  | .gone => k .gone
def raiseK {α : Type} : List Blk → (List Blk → α) → α
  | [], K => K []
  | x :: l, K => raiseC x fun y => raiseK l fun l' => K (y :: l')

/-- New rows, given up to be read alone from the first ('fl'). -/
def raiseUK {α : Type} (fl : Bool) : Upd → (Upd → α) → α
  | [], K => K []
  | (b, x) :: u, K => (match fl with
    | true => raiseC x
    | false => fun k => k x) fun y => raiseUK fl u fun u' => K ((b, y) :: u')
def stepK (P : Program) (T : TypeId → TD) (fl : Bool) (o : Oper) (b : Bool) (tm : List Val) (hp : List Blk) (C : List Val → List Blk → Prop) : Prop :=
  match b with
  | true => opRun P T o tm hp fun v u _ => raiseUK fl u fun u => updK hp u fun hp' => putDK tm o.dst v fun tm' => C tm' hp'
  | false => putDK tm o.dst (.tup []) fun tm' => C tm' hp
def regK (P : Program) (T : TypeId → TD) (fl : Bool) (all : List Oper) : List Oper → List Val → List Blk → (List Val → List Blk → Prop) → Prop
  | [], tm, hp, K => K tm hp
  | o :: rest, tm, hp, K => wantK all o tm fun b tm => stepK P T fl o b tm hp fun tm' hp' => regK P T fl all rest tm' hp' K
/-- What an operation read and wrote. -/
abbrev Log := List Nat × List Nat
def domK {α : Type} : Upd → (List Nat → α) → α
  | [], K => K []
  | (b, _) :: u, K => domK u fun l => K (b :: l)
def stepDK (P : Program) (T : TypeId → TD) (fl : Bool) (o : Oper) (b : Bool) (tm : List Val) (hp : List Blk) (C : List Val → List Blk → Log → Prop) : Prop :=
  match b with
  | true => opRun P T o tm hp fun v u r => raiseUK fl u fun u => updK hp u fun hp' => putDK tm o.dst v fun tm' => domK u fun d => C tm' hp' (r, d)
  | false => putDK tm o.dst (.tup []) fun tm' => C tm' hp ([], [])
def drawK (P : Program) (T : TypeId → TD) (fl : Bool) (all : List Oper) : List Oper → List Val → List Blk → List Log → (List Val → List Blk → List Log → Prop) → Prop
  | [], tm, hp, lg, K => K tm hp lg
  | o :: rest, tm, hp, lg, K => wantK all o tm fun b tm => stepDK P T fl o b tm hp fun tm' hp' g => drawK P T fl all rest tm' hp' (g :: lg) K
/-- What stands before an operation, as bits. -/
def orAll (as : List Nat) : List Edge → Nat
  | [] => 0
  | e :: es => match Region.binds .any e with
    | true => (2 ^ e.on ||| as.getD e.on 0) ||| orAll as es
    | false => orAll as es
/-- The operations' ancestors, the earlier ones' being there. -/
def anc (as : List Nat) : List Oper → List Nat
  | [] => as
  | o :: rest => anc (as ++ [orAll as o.after.toList]) rest
def meets : List Nat → List Nat → Bool
  | [], _ => false
  | x :: l, m => m.elem x || meets l m
/-- The pairs i < j that are not ordered: nothing that the one writes does the other touch. -/
def pairB (ops : List Oper) (o : Oper) (lg : Log) (a : Nat) : Nat → List Oper → List Log → Bool
  | _, [], _ => true
  | _, _ :: _, [] => false
  | i, p :: ps, g :: gs => (a.testBit i || (p.apart ops.toArray o && !(meets g.2 lg.1) && !(meets g.2 lg.2) && !(meets g.1 lg.2))) && pairB ops o lg a (i + 1) ps gs
def edgesB (i : Nat) (es : List Edge) : Bool := es.all fun e => !Region.binds .any e || decide (e.on < i)
def pairsB (ops : List Oper) (as : List Nat) (done : List Oper) (dl : List Log) : Nat → List Oper → List Log → Bool
  | _, [], _ => true
  | _, _ :: _, [] => false
  | j, o :: rest, g :: gs => edgesB j o.after.toList && pairB ops o g (as.getD j 0) 0 done dl && pairsB ops as (done ++ [o]) (dl ++ [g]) (j + 1) rest gs
def regionB (ops : List Oper) (lg : List Log) : Bool := pairsB ops (anc [] ops) [] [] 0 ops lg.reverse

def hasL : Code → Nat → Bool
  | .seq a b, l => hasL a l || hasL b l
  | .label l', l => l' == l
  | _, _ => false

/-- The blocks that are kept: the first n in their places. -/
def keepB (n : Nat) (ks : List Nat) : Bool := nodupB ks && (List.range n).isPrefixOf ks
abbrev Kont := Ex → List Val → List Blk → Prop
def thenK (f : List Val → List Blk → Kont → Prop) (K : Kont) : Kont := fun e tm hp => match e with
  | .normal => f tm hp K
  | e => K e tm hp
def blockK (id : Nat) (K : Kont) : Kont := fun e tm hp => K (match e with
  | .exit i => match i == id with
    | true => .normal
    | false => .exit i
  | e => e) tm hp
def loopK (I : List Val → List Blk → Prop) (K : Kont) : Kont := fun e tm hp => match e with
  | .normal => I tm hp
  | e => K e tm hp
def jumpK (J : Nat → List Val → List Blk → Prop) (K : Kont) : Kont := fun e tm hp => match e with
  | .goto l => J l tm hp
  | e => K e tm hp
def normK (K : Kont) : List Val → List Blk → Prop := fun tm hp => K .normal tm hp
def drawnK (ops : List Oper) (K : Kont) : List Val → List Blk → List Log → Prop := fun tm hp lg => Need (regionB ops lg = true) (K .normal tm hp)
/-- A truth value decides between two pieces of code. -/
structure Cond (b : Bool) (X Y : Option Nat → List Val → List Blk → Kont → Prop) (tm : List Val) (hp : List Blk) (K : Kont) : Prop where
  yes : b = true → X none tm hp K
  no : b = false → Y none tm hp K
def hasCall : List Oper → Bool
  | [] => false
  | o :: l => match o.op with
    | .call c => match c.callee with
      | .value _ => true
      | _ => hasCall l
    | _ => hasCall l
/-- The usual: rows are given up to be read alone where something is called. -/
def atCalls (_ : Nat) (ops : List Oper) : Bool := hasCall ops
def atNone (_ : Nat) (_ : List Oper) : Bool := false
def goK (P : Program) (T : TypeId → TD) (fl : Bool) (ops : List Oper) (d : Bool) (tm : List Val) (K : Kont) (hp : List Blk) : Prop :=
  match d with
  | false => regK P T fl ops ops tm hp (normK K)
  | true => drawK P T fl ops ops tm hp [] (drawnK ops K)
/-- What code does, from its start ('none') or from a label. 'R': the regions before which rows are given up to be read alone; 'n': how many blocks the caller handed. -/
def wp (P : Program) (T : TypeId → TD) (R : Nat → List Oper → Bool) (n : Nat) : Code → Option Nat → List Val → List Blk → Kont → Prop
  | .skip, none, tm, hp, K => K .normal tm hp
  | .region id ops d, none, tm, hp, K => (match R id ops.toList with
    | true => raiseK hp
    | false => fun go => go hp) (goK P T (R id ops.toList) ops.toList d tm K)
  | .seq a b, none, tm, hp, K => wp P T R n a none tm hp (thenK (wp P T R n b none) K)
  | .seq a b, some l, tm, hp, K => match hasL a l with
    | true => wp P T R n a (some l) tm hp (thenK (wp P T R n b none) K)
    | false => wp P T R n b (some l) tm hp K
  | .cond c x y, none, tm, hp, K => evK tm c fun v => match v with
    | .bool b => Cond b (wp P T R n x) (wp P T R n y) tm hp K
    | _ => False
  | .block id c, none, tm, hp, K => wp P T R n c none tm hp (blockK id K)
  | .loop c, none, tm, hp, K => ∀ I : List Val → List Blk → Prop, (∀ ks m tm hp, keepB n ks = true → gcK ks m tm hp I → I tm hp) →
    (∀ tm hp, wp P T R n c none tm hp (loopK I K) → I tm hp) → I tm hp
  | .exit id, none, tm, hp, K => K (.exit id) tm hp
  | .scope c, none, tm, hp, K => ∀ J : Nat → List Val → List Blk → Prop, (∀ l ks m tm hp, keepB n ks = true → gcK ks m tm hp (J l) → J l tm hp) →
    (∀ l tm hp, wp P T R n c (some l) tm hp (jumpK J K) → J l tm hp) → wp P T R n c none tm hp (jumpK J K)
  | .label _, none, tm, hp, K => K .normal tm hp
  | .label l', some l, tm, hp, K => match l' == l with
    | true => K .normal tm hp
    | false => False
  | .goto l, none, tm, hp, K => K (.goto l) tm hp
  | .ret, none, tm, hp, K => K .ret tm hp
  | _, _, _, _, _ => False

/-! ### a function -/
def resK (T : TypeId → TD) (tm : List Val) (hp : List Blk) : List ResultVar → (List Val → Prop) → Prop
  | [], K => K []
  | .tmp t :: rs, K => getK tm t fun v => resK T tm hp rs fun vs => K (v :: vs)
  | .cell t ty :: rs, K => getK tm t fun a => (nb (T ty) fun d => loadP d a).runL hp [] none fun v u _ o => needK o <| match u with
    | [] => resK T tm hp rs fun vs => K (v :: vs)
    | _ => False
def tupK {α : Type} (vs : List Val) (K : Val → α) : α :=
  match vs with
  | [v] => K v
  | vs => K (.tup vs)
def closedR : Val → Bool
  | .tup vs => closedAs vs
  | v => closedA v
structure End (v vt : Val) (ht : List Blk) : Prop where
  val : v = vt
  none : ht = []
/-- Blocks are handed back: ks of them, the caller's own first. -/
inductive EndH (n : Nat) (v : Val) (hp : List Blk) (vt : Val) (ht : List Blk) : Prop
  | mk (ks : List Nat) (hk : keepB n ks = true) (hv : renV (idx ks) v = vt) (hh : sel ks hp = ht)
/-- The end: the value and the blocks, as the contract names them. -/
def endK (n : Nat) (v : Val) (hp : List Blk) (vt : Val) (ht : List Blk) : Prop :=
  match n, closedR v with
  | 0, true => End v vt ht
  | n, _ => EndH n v hp vt ht
def blankK {α : Type} : Nat → (List Val → α) → α
  | 0, K => K []
  | n + 1, K => blankK n fun l => K (.tup [] :: l)
def padK {α : Type} : List Val → Nat → (List Val → α) → α
  | [], n, K => blankK n K
  | v :: vs, n, K => padK vs (n - 1) fun l => K (v :: l)
def finK (T : TypeId → TD) (rs : List ResultVar) (n : Nat) (v : Val) (h' : List Blk) : Kont := fun e tm hp => match e with
  | .normal | .ret => resK T tm hp rs fun vs => tupK vs fun x => endK n x hp v h'
  | _ => False
/-- The goal from which a contract follows. -/
def body (P : Program) (T : TypeId → TD) (R : Nat → List Oper → Bool) (k : Nat) (rs : List ResultVar) (c : Code) (args : List Val) (h : List Blk) (v : Val) (h' : List Blk) : Prop :=
  padK args k fun tm => wp P T R h.length c none tm h (finK T rs h.length v h')
end
end Go.AM
