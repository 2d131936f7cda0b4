/- The abstract machine, its values, its programs and its operations: definitions alone; nothing is proved here. -/
import GoSem.Core.Code
import GoSem.Core.View
import GoSem.Op.String
import Derived.Below
import Derived.Deep.Draws
import GoSem.Machine.Frame
import Derived.Laws.Sem
import Derived.MapKept
import Derived.Laws.Entries
import Derived.KernelRfl
set_option linter.unusedVariables false
set_option linter.unusedSimpArgs false
set_option maxRecDepth 100000
namespace Go.AM
noncomputable section

/-- A value: what a call of its own made is named by a block's number; 'ext', 'rptr' are memory that is never written again; 'raw' the model's value itself. -/
inductive Val where
  | bool (b : Bool)
  | int (k : IntKind) (n : Int)
  | str (s : ByteArray)
  | ptr (b off : Nat)
  | ep (b sz i j : Nat)
  | rptr (cs : List Val)
  | nilp
  | row (b n : Nat)
  | asl (b off n : Nat)
  | ext (sz n : Nat) (get : Nat → List Val)
  | nils
  | emp
  | fn (f : FuncId) (first cap : List Val)
  | nilf
  | map (b : Nat)
  | nilm
  | ifc (t : TypeId) (v : Val)
  | nili
  | agg (cs : List Val)
  | tup (vs : List Val)
  | und
  | raw (u : Value)

instance : Inhabited Val := ⟨.und⟩

/-- What a type looks like. -/
inductive TD where
  | bool | int (k : IntKind) | str
  | struct (fs : List TD)
  | arr (n : Nat) (e : TD)
  | slice (e : TypeId) (sz bytes : Nat)
  | ptr (e : TypeId)
  | map (k e : TypeId)
  | func
  | iface
  | bad

mutual
def TD.size : TD → Nat
  | .struct fs => TD.sizes fs
  | .arr n e => n * e.size
  | _ => 1
def TD.sizes : List TD → Nat
  | [] => 0
  | f :: fs => f.size + TD.sizes fs
end
def rep : Nat → List Val → List Val
  | 0, _ => []
  | n + 1, l => l ++ rep n l
mutual
def TD.zero : TD → List Val
  | .bool => [.bool false]
  | .int k => [.int k 0]
  | .str => [.str ByteArray.empty]
  | .struct fs => TD.zeros fs
  | .arr n e => rep n e.zero
  | .slice .. => [.nils]
  | .ptr _ => [.nilp]
  | .map .. => [.nilm]
  | .func => [.nilf]
  | .iface => [.nili]
  | .bad => [.und]
def TD.zeros : List TD → List Val
  | [] => []
  | f :: fs => f.zero ++ TD.zeros fs
end
def TD.isAgg : TD → Bool
  | .struct _ | .arr .. => true
  | _ => false
mutual
/-- numbers, bools, strings alone -/
def TD.flat : TD → Bool
  | .bool | .int _ | .str => true
  | .struct fs => TD.flats fs
  | .arr _ e => e.flat
  | _ => false
def TD.flats : List TD → Bool
  | [] => true
  | f :: fs => f.flat && TD.flats fs
end
def repT : Nat → List TD → List TD
  | 0, _ => []
  | n + 1, l => l ++ repT n l
mutual
/-- its cells' kinds -/
def TD.leafs : TD → List TD
  | .struct fs => TD.leafss fs
  | .arr n e => repT n e.leafs
  | d => [d]
def TD.leafss : List TD → List TD
  | [] => []
  | f :: fs => f.leafs ++ TD.leafss fs
end
mutual
def TD.depth : TD → Nat
  | .struct fs => TD.depths fs + 1
  | .arr _ e => e.depth + 1
  | _ => 1
def TD.depths : List TD → Nat
  | [] => 0
  | f :: fs => max f.depth (TD.depths fs)
end
def leafB : TD → Val → Bool
  | .bool, .bool _ => true
  | .int k, .int k' _ => decide (k = k')
  | .str, .str _ => true
  | _, _ => false
def leafsB : List TD → List Val → Bool
  | [], [] => true
  | d :: ds, v :: vs => leafB d v && leafsB ds vs
  | _, _ => false
/-- Field f: where it begins, and its kind. -/
def fieldAt : List TD → Nat → Nat → Option (Nat × TD)
  | [], _, _ => none
  | t :: _, 0, o => some (o, t)
  | t :: ts, f + 1, o => fieldAt ts f (o + t.size)

/-- A cell of a map's key. -/
inductive Leaf where
  | b (x : Bool)
  | i (k : IntKind) (n : Int)
  | s (x : ByteArray)
  deriving DecidableEq
/-- Its kind. -/
inductive LK where
  | b
  | i (k : IntKind)
  | s
  deriving DecidableEq
def Leaf.lk : Leaf → LK
  | .b _ => .b
  | .i k _ => .i k
  | .s _ => .s
def leafVal : Leaf → Value
  | .b x => .bool x
  | .i k n => .int k n
  | .s x => .string x
abbrev MEnt := List Leaf × List Val
/-- A map's entries, each once; the first one of a key counts. -/
def mfind (k : List Leaf) : List MEnt → Option (List Val)
  | [] => none
  | p :: es => match decide (p.1 = k) with
    | true => some p.2
    | false => mfind k es
def mput (k : List Leaf) (v : List Val) : List MEnt → List MEnt
  | [] => [(k, v)]
  | p :: es => match decide (p.1 = k) with
    | true => (k, v) :: es
    | false => p :: mput k v es
inductive Blk where
  | cells (cs : List Val)
  | row (e : TypeId) (sz n : Nat) (get : Nat → List Val) (prot : Nat)
  | map (kag vag : Bool) (ks : List LK) (es : List MEnt)
  /-- a map whose values are pointers: they may name blocks -/
  | pmap (kag : Bool) (ks : List LK) (es : List MEnt)
  | gone

abbrev Upd := List (Nat × Blk)

/-- What an operation does: it reads blocks; it needs something; it hands back a value and writes blocks. -/
inductive Prog where
  | ret (v : Val) (u : Upd)
  | get (b : Nat) (k : Blk → Prog)
  | need (p : Prop) [d : Decidable p] (k : Prog)
  | fail

def Prog.run : Prog → (Nat → Blk) → List Nat → (Val → Upd → List Nat → Prop) → Prop
  | .ret v u, _, r, K => K v u r
  | .get b k, H, r, K => (k (H b)).run H (b :: r) K
  | @Prog.need p _ k, H, r, K => p ∧ k.run H r K
  | .fail, _, _, _ => False

/-! ### in continuation form: what is handed on is written out -/
section
variable {α : Type}
/- 'putK', 'getK' by the recursors themselves: the kernel takes them in fewer steps. -/
def putK (l : List Val) : Nat → Val → (List Val → α) → α :=
  List.rec (motive := fun _ => Nat → Val → (List Val → α) → α) (fun _ _ K => K [])
    (fun x l ih n v => Nat.rec (motive := fun _ => (List Val → α) → α) (fun K => K (v :: l)) (fun m _ K => ih m v fun l' => K (x :: l')) n) l
def getK (l : List Val) : Nat → (Val → α) → α :=
  List.rec (motive := fun _ => Nat → (Val → α) → α) (fun _ K => K (.tup []))
    (fun x _ ih n => Nat.rec (motive := fun _ => (Val → α) → α) (fun K => K x) (fun m _ => ih m) n) l
def dropK : List Val → Nat → (List Val → α) → α
  | l, 0, K => K l
  | [], _ + 1, K => K []
  | _ :: l, n + 1, K => dropK l n K
def takeK : List Val → Nat → (List Val → α) → α
  | _, 0, K => K []
  | [], _ + 1, K => K []
  | x :: l, n + 1, K => takeK l n fun l' => K (x :: l')
def appK : List Val → List Val → (List Val → α) → α
  | [], m, K => K m
  | x :: l, m, K => appK l m fun l' => K (x :: l')
def ofValueK (v : Value) (K : Val → α) : α :=
  match v with
  | .bool b => K (.bool b)
  | .int k n => K (.int k n)
  | .string s => K (.str s)
  | .pointer none => K .nilp
  | .slice none 0 0 => K .nils
  | .map none => K .nilm
  | .nilFunc => K .nilf
  | .nilIface => K .nili
  | .tuple ⟨[]⟩ => K (.tup [])
  | _ => K .und
def evK (tm : List Val) (x : Operand) (K : Val → α) : α :=
  match x with
  | .tmp t => getK tm t K
  | .const v => ofValueK v K
  | .global _ => K .und
  | .func f => K (.fn f [] [])
def evsK (tm : List Val) : List Operand → (List Val → α) → α
  | [], K => K []
  | x :: xs, K => evK tm x fun v => evsK tm xs fun vs => K (v :: vs)
end
def cellsOf : Val → List Val
  | .agg cs => cs
  | v => [v]
/-- cells cs, those from off on replaced by new -/
def splice (cs : List Val) (off : Nat) (new : List Val) (K : List Val → Prog) : Prog :=
  takeK cs off fun a => dropK cs (off + new.length) fun c => appK new c fun nc => appK a nc K
def wrapVal (t : TD) (cs : List Val) (K : Val → Prog) : Prog :=
  match t.isAgg with
  | true => K (.agg cs)
  | false => match cs with
    | [v] => K v
    | _ => .fail

/-- no block is referred to (a cell of a row) -/
def closed : Val → Bool
  | .bool _ | .int .. | .str _ | .rptr _ | .nilp | .ext .. | .nils | .emp | .nilf | .nilm | .nili => true
  | .fn _ [] [] => true
  | .ifc _ v => closed v
  | _ => false
def closedL : List Val → Bool
  | [] => true
  | v :: vs => closed v && closedL vs

/-! ### operations -/
/-- a type that is known -/
def nb (d : TD) (k : TD → Prog) : Prog := match d with
  | .bad => .fail
  | d => k d
def arith (op : BinOp) (k : IntKind) (a b : Int) : Option Val :=
  match op with
  | .add => some (.int k (k.wrap (a + b)))
  | .sub => some (.int k (k.wrap (a - b)))
  | .mul => some (.int k (k.wrap (a * b)))
  | .and => some (.int k (k.wrap (BitVec.ofInt k.bits a &&& BitVec.ofInt k.bits b).toNat))
  | .or => some (.int k (k.wrap (BitVec.ofInt k.bits a ||| BitVec.ofInt k.bits b).toNat))
  | .xor => some (.int k (k.wrap (BitVec.ofInt k.bits a ^^^ BitVec.ofInt k.bits b).toNat))
  | .andNot => some (.int k (k.wrap (BitVec.ofInt k.bits a &&& ~~~ (BitVec.ofInt k.bits b)).toNat))
  | .eql => some (.bool (a == b))
  | .neq => some (.bool (a != b))
  | .lss => some (.bool (decide (a < b)))
  | .leq => some (.bool (decide (a ≤ b)))
  | .gtr => some (.bool (decide (a > b)))
  | .geq => some (.bool (decide (a ≥ b)))
  | _ => none

def valK (v : Val) : Prog := .ret v []

/-- '==' of leaves, one by one -/
def eqK : List Val → List Val → (Bool → Prog) → Prog
  | [], [], K => K true
  | .bool a :: xs, .bool b :: ys, K => eqK xs ys fun r => K ((a == b) && r)
  | .int k a :: xs, .int k' b :: ys, K => match decide (k = k') with
    | true => eqK xs ys fun r => K ((a == b) && r)
    | false => .fail
  | .str a :: xs, .str b :: ys, K => eqK xs ys fun r => K ((a.toList == b.toList) && r)
  | _, _, _ => .fail

def eqP (t : TD) (x y : Val) (K : Bool → Prog) : Prog :=
  match x, y with
  | .agg cs, .agg ds => match t.isAgg && t.flat && decide (t.depth ≤ 9000) && leafsB t.leafs cs && leafsB t.leafs ds with
    | true => eqK cs ds K
    | false => .fail
  | .nilp, .nilp => match t with | .ptr _ => K true | _ => .fail
  | .ptr .., .nilp => match t with | .ptr _ => K false | _ => .fail
  | .nilp, .ptr .. => match t with | .ptr _ => K false | _ => .fail
  | .rptr _, .nilp => match t with | .ptr _ => K false | _ => .fail
  | .nilp, .rptr _ => match t with | .ptr _ => K false | _ => .fail
  | .nils, .nils => match t with | .slice .. => K true | _ => .fail
  | .row .., .nils => match t with | .slice .. => K false | _ => .fail
  | .ext _ n _, .nils => match t with | .slice .. => .need (0 < n) (K false) | _ => .fail
  | _, _ => .fail

def binP (t : TD) (op : BinOp) (x y : Val) : Prog :=
  match x, y with
  | .int k a, .int k' b =>
    match op with
    | .shl => .need (0 ≤ b) (valK (.int k (k.wrap (a * 2 ^ (min b.toNat k.bits)))))
    | .shr => .need (0 ≤ b) (valK (.int k (a.fdiv (2 ^ (min b.toNat k.bits)))))
    | .quo => .need (b ≠ 0) (match decide (k = k') with | true => valK (.int k (k.wrap (a.tdiv b))) | false => .fail)
    | .rem => .need (b ≠ 0) (match decide (k = k') with | true => valK (.int k (a.tmod b)) | false => .fail)
    | _ => match decide (k = k') with
      | true => match arith op k a b with | some v => valK v | none => .fail
      | false => .fail
  | .bool a, .bool b => match t with
    | .bool => match op with | .eql => valK (.bool (a == b)) | .neq => valK (.bool (!(a == b))) | _ => .fail
    | _ => .fail
  | .str a, .str b => match op with
    | .add => .need (a.size + b.size ≤ 9223372036854775807) (valK (.str (a ++ b)))
    | .eql => valK (.bool (a.toList == b.toList))
    | .neq => valK (.bool (!(a.toList == b.toList)))
    | .lss => valK (.bool (Op.bytesLess a.toList b.toList))
    | .leq => valK (.bool (Op.bytesLess a.toList b.toList || a.toList == b.toList))
    | .gtr => valK (.bool (!(Op.bytesLess a.toList b.toList || a.toList == b.toList)))
    | .geq => valK (.bool (!(Op.bytesLess a.toList b.toList)))
    | _ => .fail
  | x, y => match op with
    | .eql => eqP t x y fun r => valK (.bool r)
    | .neq => eqP t x y fun r => valK (.bool (!r))
    | _ => .fail

/-- '==' of pointers to variables of the call's own -/
def ptrEqP (T : TypeId → TD) (t : TD) (op : BinOp) (b o b' o' : Nat) : Prog :=
  match t with
  | .ptr e => nb (T e) fun d => match d.size with
    | 0 => .fail
    | _ + 1 => .get b fun x => match x with
      | .cells _ => .get b' fun y => match y with
        | .cells _ => match op with
          | .eql => valK (.bool (b == b' && o == o'))
          | .neq => valK (.bool (!(b == b' && o == o')))
          | _ => .fail
        | _ => .fail
      | _ => .fail
  | _ => .fail
def binPT (T : TypeId → TD) (t : TD) (op : BinOp) (x y : Val) : Prog :=
  match x, y with
  | .ptr b o, .ptr b' o' => ptrEqP T t op b o b' o'
  | x, y => binP t op x y

def unP (op : UnOp) (x : Val) : Prog :=
  match op, x with
  | .not, .bool b => valK (.bool (!b))
  | .neg, .int k n => valK (.int k (k.wrap (0 - n)))
  | .xor, .int k n => valK (.int k (k.wrap (BitVec.ofInt k.bits (if k.signed then -1 else k.max) ^^^ BitVec.ofInt k.bits n).toNat))
  | _, _ => .fail

def fromP (t : TD) (cs : List Val) (off : Nat) : Prog :=
  dropK cs off fun d => takeK d t.size fun c => match c.length == t.size with
    | true => wrapVal t c valK
    | false => .fail
/-- Cells that are looked at by their number: a slice's array whose cells name blocks of the call's own. -/
@[irreducible] def cellAt (cs : List Val) (k : Nat) : Val := cs.getD k .und
@[irreducible] def putAt (cs : List Val) (k : Nat) (new : List Val) : List Val := cs.take k ++ (new ++ cs.drop (k + new.length))
theorem cellAt_eq (cs : List Val) (k : Nat) : cellAt cs k = cs.getD k .und := by unfold cellAt; rfl
theorem putAt_eq (cs : List Val) (k : Nat) (new : List Val) : putAt cs k new = cs.take k ++ (new ++ cs.drop (k + new.length)) := by unfold putAt; rfl
def loadP (t : TD) (a : Val) : Prog :=
  match a with
  | .ptr b off => .get b fun x => match x with | .cells cs => fromP t cs off | _ => .fail
  | .ep b sz i j => .get b fun x => match x with
    | .row _ sz' n g _ => .need (i < n) (match sz == sz' with | true => fromP t (g i) j | false => .fail)
    | .cells cs => match t.size == 1 && !t.isAgg with
      | true => .need (i * sz + j < cs.length) (valK (cellAt cs (i * sz + j)))
      | false => .fail
    | _ => .fail
  | .rptr cs => fromP t cs 0
  | _ => .fail

def storeC (t : TD) (a : Val) (cs : List Val) : Prog :=
  match cs.length == t.size with
  | true => match a with
    | .ptr b off => .get b fun x => match x with
      | .cells old => match decide (off + cs.length ≤ old.length) with
        | true => splice old off cs fun new => .ret (.tup []) [(b, .cells new)]
        | false => .fail
      | _ => .fail
    | .ep b sz i j => .get b fun x => match x with
      | .row e sz' n g pr => .need (i < n ∧ pr ≤ i) (match sz == sz' && closedL cs && decide (j + cs.length ≤ sz) with
        | true => .ret (.tup []) [(b, .row e sz n (fun k => if k = i then (g i).take j ++ cs ++ (g i).drop (j + cs.length) else g k) pr)]
        | false => .fail)
      | .cells old => .need (i * sz + j + cs.length ≤ old.length) (.ret (.tup []) [(b, .cells (putAt old (i * sz + j) cs))])
      | _ => .fail
    | _ => .fail
  | false => .fail
def storeP (t : TD) (a v : Val) : Prog :=
  match v with
  | .und | .tup _ => .fail
  | .agg cs => storeC t a cs
  | v => storeC t a [v]

def fieldAddrP (t : TD) (x : Val) (f : Nat) : Prog :=
  match t with
  | .struct fs => match fieldAt fs f 0 with
    | some (o, d) => match d.size with
      | 0 => .fail
      | _ + 1 => match x with
        | .ptr b off => valK (.ptr b (off + o))
        | .ep b s i j => valK (.ep b s i (j + o))
        | .rptr cs => dropK cs o fun d => valK (.rptr d)
        | _ => .fail
    | none => .fail
  | _ => .fail
def fieldP (t : TD) (x : Val) (f : Nat) : Prog :=
  match t, x with
  | .struct fs, .agg cs => match fieldAt fs f 0 with
    | some (o, d) => fromP d cs o
    | none => .fail
  | _, _ => .fail
def indexAddrP (t : TD) (x i : Val) : Prog :=
  match i with
  | .int _ i => match t with
    | .arr n e => match x with
      | .ptr b off => .need (0 ≤ i ∧ i < n) (valK (.ptr b (off + i.toNat * e.size)))
      | .ep b s k j => .need (0 ≤ i ∧ i < n) (valK (.ep b s k (j + i.toNat * e.size)))
      | .rptr cs => .need (0 ≤ i ∧ i < n) (dropK cs (i.toNat * e.size) fun d => valK (.rptr d))
      | _ => .fail
    | .slice _ sz _ => match x with
      | .ext s n g => .need (0 ≤ i ∧ i < n) (match s == sz with | true => valK (.rptr (g i.toNat)) | false => .fail)
      | .row b n => .need (0 ≤ i ∧ i < n) (valK (.ep b sz i.toNat 0))
      | _ => .fail
    | _ => .fail
  | _ => .fail
/-- byte i of a string -/
def bt (s : ByteArray) (i : Int) : Int := match s.data.toList[i.toNat]? with
  | some b => b.toNat
  | none => 0
def indexP (t : TD) (x i : Val) : Prog :=
  match i with
  | .int _ i => match t, x with
    | .str, .str s => .need (0 ≤ i ∧ i < s.size) (valK (.int .u8 (bt s i)))
    | .arr n e, .agg cs => .need (0 ≤ i ∧ i < n) (fromP e cs (i.toNat * e.size))
    | _, _ => .fail
  | _ => .fail
def nthK : List Val → Nat → (Val → Prog) → Prog
  | [], _, _ => .fail
  | x :: _, 0, K => K x
  | _ :: l, n + 1, K => nthK l n K
def extractP (x : Val) (j : Nat) : Prog :=
  match x with
  | .tup vs => nthK vs j valK
  | _ => .fail
def fillK (place : Nat → Option (Nat × Nat)) (tm : List Val) : List Val → List (Nat × Operand) → (List Val → Prog) → Prog
  | cs, [], K => K cs
  | cs, (i, x) :: rest, K => evK tm x fun v => match v with
    | .und | .tup _ => .fail
    | v => match place i with
      | some (off, size) => match (cellsOf v).length == size && decide (off + size ≤ cs.length) with
        | true => splice cs off (cellsOf v) fun cs' => fillK place tm cs' rest K
        | false => .fail
      | none => .fail
def structPlace (fs : List TD) (i : Nat) : Option (Nat × Nat) :=
  match fieldAt fs i 0 with
  | some (o, d) => some (o, d.size)
  | none => none
def buildP (t : TD) (tm : List Val) (parts : List (Nat × Operand)) : Prog :=
  match t with
  | .struct fs => appK t.zero [] fun z => fillK (structPlace fs) tm z parts fun cs => valK (.agg cs)
  | .arr _ e => appK t.zero [] fun z => fillK (fun i => some (i * e.size, e.size)) tm z parts fun cs => valK (.agg cs)
  | _ => .fail
/-- a list cut into pieces of sz cells -/
def pieces (sz : Nat) : Nat → List Val → List (List Val)
  | 0, _ => []
  | n + 1, l => l.take sz :: pieces sz n (l.drop sz)
def buildSliceP (T : TypeId → TD) (t : TD) (len nid : Nat) (tm : List Val) (parts : List (Nat × Operand)) : Prog :=
  match t with
  | .slice e sz _ => nb (T e) fun d => match decide (0 < sz) && d.size == sz && decide (len * sz ≤ 16777216) with
    | true => appK (rep len d.zero) [] fun z => fillK (fun i => some (i * sz, sz)) tm z parts fun cs => match closedL cs with
      | true => .ret (.row nid len) [(nid, .row e sz len (fun i => (pieces sz len cs).getD i []) 0)]
      | false => .ret (.row nid len) [(nid, .cells cs)]
    | false => .fail
  | _ => .fail
/-! maps -/
def tdLK : TD → Option LK
  | .bool => some .b
  | .int k => some (.i k)
  | .str => some .s
  | _ => none
def tdLKs : List TD → Option (List LK)
  | [] => some []
  | d :: ds => match tdLK d with
    | some l => match tdLKs ds with
      | some ls => some (l :: ls)
      | none => none
    | none => none
/-- what a map's keys look like: one cell, or a struct of such -/
def keyTd : TD → Option (Bool × List LK)
  | .struct fs => match tdLKs fs with
    | some ls => some (true, ls)
    | none => none
  | d => match tdLK d with
    | some l => some (false, [l])
    | none => none
def leafOf : Val → Option Leaf
  | .bool x => some (.b x)
  | .int k n => some (.i k n)
  | .str x => some (.s x)
  | _ => none
def leavesOf : List Val → Option (List Leaf)
  | [] => some []
  | v :: vs => match leafOf v with
    | some l => match leavesOf vs with
      | some ls => some (l :: ls)
      | none => none
    | none => none
def keyP (kag : Bool) (v : Val) (K : List Leaf → Prog) : Prog :=
  match kag, v with
  | true, .agg cs => match leavesOf cs with
    | some k => K k
    | none => .fail
  | false, v => match leafOf v with
    | some l => K [l]
    | none => .fail
  | _, _ => .fail
/-- a map that is new -/
def mapB (kag : Bool) (ed : TD) (ks : List LK) : Blk := match ed with
  | .ptr _ => .pmap kag ks []
  | .bool => .map kag false ks []
  | .int _ => .map kag false ks []
  | .str => .map kag false ks []
  | d => .map kag d.isAgg ks []
def makeMapP (T : TypeId → TD) (t : TD) (nid : Nat) (rv : Option Val) : Prog :=
  match t with
  | .map kt et => nb (T kt) fun kd => nb (T et) fun ed => match keyTd kd with
    | some (kag, ks) => match rv with
      | none => .ret (.map nid) [(nid, mapB kag ed ks)]
      | some (.int _ _) => .ret (.map nid) [(nid, mapB kag ed ks)]
      | some _ => .fail
    | none => .fail
  | _ => .fail
def outP (ok : Bool) (vag : Bool) (cs : List Val) (is : Bool) : Prog :=
  match ok, vag with
  | true, true => valK (.tup [.agg cs, .bool is])
  | false, true => valK (.agg cs)
  | ok, false => match cs with
    | [v] => match ok with
      | true => valK (.tup [v, .bool is])
      | false => valK v
    | _ => .fail
def lookupP (T : TypeId → TD) (t : TD) (m k : Val) (ok : Bool) : Prog :=
  match t with
  | .map kt et => nb (T kt) fun kd => nb (T et) fun ed => match keyTd kd with
    | some (kag, ks) => keyP kag k fun key => match decide (key.map Leaf.lk = ks) with
      | true => match m with
        | .nilm => outP ok ed.isAgg ed.zero false
        | .map b => .get b fun x => match x with
          | .map kag' vag' ks' es => match kag == kag' && ed.isAgg == vag' && decide (ks = ks') with
            | true => match mfind key es with
              | some cs => outP ok ed.isAgg cs true
              | none => outP ok ed.isAgg ed.zero false
            | false => .fail
          | .pmap kag' ks' es => match kag == kag' && ed.isAgg == false && decide (ks = ks') with
            | true => match mfind key es with
              | some cs => outP ok false cs true
              | none => outP ok false ed.zero false
            | false => .fail
          | _ => .fail
        | _ => .fail
      | false => .fail
    | none => .fail
  | _ => .fail
def cellsV (vag : Bool) (v : Val) (K : List Val → Prog) : Prog :=
  match vag, v with
  | true, .agg cs => K cs
  | false, .agg _ => .fail
  | false, .tup _ => .fail
  | false, .und => .fail
  | false, v => K [v]
  | _, _ => .fail
def mapUpdateP (T : TypeId → TD) (t : TD) (m k v : Val) : Prog :=
  match t with
  | .map kt et => nb (T kt) fun kd => match keyTd kd with
    | some (kag, ks) => keyP kag k fun key => match decide (key.map Leaf.lk = ks) with
      | true => match m with
        | .map b => .get b fun x => match x with
          | .map kag' vag ks' es => match kag == kag' && decide (ks = ks') with
            | true => cellsV vag v fun cs => match closedL cs with
              | true => .ret (.tup []) [(b, .map kag' vag ks' (mput key cs es))]
              | false => .fail
            | false => .fail
          | .pmap kag' ks' es => match kag == kag' && decide (ks = ks') with
            | true => cellsV false v fun cs => .ret (.tup []) [(b, .pmap kag' ks' (mput key cs es))]
            | false => .fail
          | _ => .fail
        | _ => .fail
      | false => .fail
    | none => .fail
  | _ => .fail
def makeSliceP (T : TypeId → TD) (t : TD) (nid : Nat) (l c : Val) : Prog :=
  match t, l, c with
  | .slice e sz by_, .int .i64 n, .int .i64 m => nb (T e) fun d => match decide (0 < sz) && d.size == sz && closedL d.zero with
    | true => .need (0 ≤ n ∧ n ≤ m ∧ m * by_ ≤ 140737488355328 ∧ m ≤ 4611686018427387904) (.ret (.row nid n.toNat) [(nid, .row e sz n.toNat (fun _ => d.zero) 0)])
    | false => .fail
  | _, _, _ => .fail

/-- A slice that is read: its elements. -/
def seenP (x : Val) (K : Nat → Nat → (Nat → List Val) → Prog) : Prog :=
  match x with
  | .nils | .emp => K 1 0 fun _ => []
  | .ext sz n g => K sz n g
  | .row b n => .get b fun y => match y with
    | .row _ sz m g _ => .need (n ≤ m) (K sz n g)
    | _ => .fail
  | _ => .fail
/-- A slice that is read: its elements; or cells that may name blocks. -/
def seenQ (x : Val) (K : Nat → Nat → (Nat → List Val) → Prog) (J : Nat → List Val → Prog) : Prog :=
  match x with
  | .nils | .emp => K 1 0 fun _ => []
  | .ext sz n g => K sz n g
  | .row b n => .get b fun y => match y with
    | .row _ sz m g _ => .need (n ≤ m) (K sz n g)
    | .cells cs => J n cs
    | _ => .fail
  | _ => .fail
def isByte (l : List Val) : Prop := ∃ n : Int, l = [.int .u8 n]
def isByteB : List Val → Bool
  | [.int .u8 _] => true
  | _ => false
theorem isByteB_iff (l : List Val) : isByteB l = true ↔ isByte l := by
  unfold isByteB isByte
  split
  · simp
  · rename_i h
    constructor
    · intro e; cases e
    · rintro ⟨n, rfl⟩; exact absurd rfl (h n)
instance (l : List Val) : Decidable (isByte l) := decidable_of_iff _ (isByteB_iff l)
def byteOf (l : List Val) : UInt8 := match l with
  | [.int _ n] => UInt8.ofNat n.toNat
  | _ => 0
def bytesStr (n : Nat) (g : Nat → List Val) : ByteArray := ⟨((List.range n).map fun i => byteOf (g i)).toArray⟩
def strOfK : List Val → (List UInt8 → Prog) → Prog
  | [], K => K []
  | .int .u8 n :: l, K => strOfK l fun bs => K (UInt8.ofNat n.toNat :: bs)
  | _, _ => .fail
def convP (T : TypeId → TD) (a b : TD) (x : Val) : Prog :=
  match a, b, x with
  | .int _, .int k, .int _ n => valK (.int k (k.wrap n))
  | .str, .str, .str s => valK (.str s)
  | .str, .slice e 1 _, .str s => match T e with
    | .int .u8 => valK (.ext 1 s.size fun i => [.int .u8 (bt s i)])
    | _ => .fail
  | .slice e 1 _, .str, .asl bl off n => match T e with
    | .int .u8 => .get bl fun y => match y with
      | .cells cs => dropK cs off fun d => takeK d n fun c => match c.length == n with
        | true => strOfK c fun bs => valK (.str ⟨bs.toArray⟩)
        | false => .fail
      | _ => .fail
    | _ => .fail
  | .slice e 1 _, .str, x => match T e with
    | .int .u8 => seenP x fun sz n g => match sz == 1 with
      | true => .need (∀ i, i < n → isByte (g i)) (valK (.str (bytesStr n g)))
      | false => .fail
    | _ => .fail
  | .int _, .str, .int _ n => .need (0 ≤ n ∧ n < 128) (valK (.str ⟨#[UInt8.ofNat n.toNat]⟩))
  | _, _, _ => .fail

def boundK (o : Option Val) (d : Int) (K : Int → Prog) : Prog :=
  match o with
  | none => K d
  | some (.int _ n) => K n
  | some _ => .fail
def sliceP (t : TD) (x : Val) (lo hi mx : Option Val) : Prog :=
  match mx with
  | none => match x with
    | .str s => match t with
      | .str => boundK lo 0 fun l => boundK hi s.size fun h => .need (0 ≤ l ∧ l ≤ h ∧ h ≤ s.size) (valK (.str (s.extract l.toNat h.toNat)))
      | _ => .fail
    | .ext sz n g => match t with
      | .slice _ sz' _ => match sz == sz' with
        | true => boundK lo 0 fun l => boundK hi n fun h => .need (0 ≤ l ∧ l ≤ h ∧ h ≤ n) (valK (.ext sz (h.toNat - l.toNat) fun i => g (i + l.toNat)))
        | false => .fail
      | _ => .fail
    | .nils => match t with
      | .slice .. => boundK lo 0 fun l => boundK hi 0 fun h => .need (l = 0 ∧ h = 0) (valK .nils)
      | _ => .fail
    | .row b n => match t with
      | .slice _ sz' _ => .get b fun y => match y with
        | .row e sz m g pr => match sz == sz' with
          | true => boundK lo 0 fun l => boundK hi n fun h => .need (0 ≤ l ∧ l ≤ h ∧ h ≤ n ∧ n ≤ m) (.ret (.ext sz (h.toNat - l.toNat) fun i => g (i + l.toNat)) [(b, .row e sz m g (max pr h.toNat))])
          | false => .fail
        | _ => .fail
      | _ => .fail
    | .ptr b off => match t with
      | .arr n e => match e.size == 1 with
        | true => boundK lo 0 fun l => boundK hi n fun h => .need (0 ≤ l ∧ l < n ∧ l ≤ h ∧ h ≤ n) (valK (.asl b (off + l.toNat) (h.toNat - l.toNat)))
        | false => .fail
      | _ => .fail
    | _ => .fail
  | some (.int _ 0) => match lo, hi, t with   -- 's[:0:0]'
    | none, some (.int _ 0), .slice .. => match x with
      | .nils => valK .nils
      | .emp => valK .emp
      | .ext _ (_ + 1) _ => valK .emp
      | .row _ (_ + 1) => valK .emp
      | _ => .fail
    | _, _, _ => .fail
  | _ => .fail
def arrPtrP (t : TD) (x : Val) : Prog :=
  match t, x with
  | .arr n e, .asl b off m => match e.size == 1 with
    | true => .need (n ≤ m) (valK (.ptr b off))
    | false => .fail
  | _, _ => .fail

/-- cells that may name blocks, appended to nothing -/
def appendQ (T : TypeId → TD) (e : TypeId) (sz by_ nid : Nat) (x : Val) (m : Nat) (cs : List Val) : Prog :=
  match x with
  | .nils => match T e with
    | .bad => .fail
    | _ => .need (sz = 1 ∧ 0 < m ∧ cs.length = m ∧ m * by_ ≤ 140737488355328 ∧ m ≤ 4611686018427387904) (.ret (.row nid m) [(nid, .cells cs)])
  | _ => .fail
def appendP (T : TypeId → TD) (t : TD) (nid : Nat) (x y : Val) : Prog :=
  match t with
  | .slice e sz by_ => match decide (0 < sz) with
    | true => seenQ y (K := fun szy m gy => match x with
      | .nils => match m with
        | 0 => valK .nils
        | m + 1 => match T e with
          | .bad => .fail
          | _ => .need (szy = sz ∧ (m + 1) * by_ ≤ 140737488355328 ∧ m + 1 ≤ 4611686018427387904) (.ret (.row nid (m + 1)) [(nid, .row e sz (m + 1) gy 0)])
      | .emp => match m with
        | 0 => valK .emp
        | m + 1 => match T e with
          | .bad => .fail
          | _ => .need (szy = sz ∧ (m + 1) * by_ ≤ 140737488355328 ∧ m + 1 ≤ 4611686018427387904) (.ret (.row nid (m + 1)) [(nid, .row e sz (m + 1) gy 0)])
      | .row b n => .get b fun z => match z with
        | .row e' sz' n' g pr => match sz == sz' && e == e' && (match T e with | .bad => false | _ => true) with
          | true => .need ((m = 0 ∨ szy = sz) ∧ n = n' ∧ (n + m) * by_ ≤ 140737488355328 ∧ n + m ≤ 4611686018427387904)
              (.ret (.row nid (n + m)) [(b, .gone), (nid, .row e sz (n + m) (fun i => if i < n then g i else gy (i - n)) pr)])
          | false => .fail
        | _ => .fail
      | _ => .fail) fun m cs => appendQ T e sz by_ nid x m cs
    | false => .fail
  | _ => .fail
def lenP (t : TD) (x : Val) : Prog :=
  match t, x with
  | .str, .str s => valK (.int .i64 s.size)
  | .arr n _, _ => valK (.int .i64 n)
  | .slice .., .nils => valK (.int .i64 0)
  | .slice .., .emp => valK (.int .i64 0)
  | .slice .., .ext _ n _ => valK (.int .i64 n)
  | .slice .., .row _ n => valK (.int .i64 n)
  | .slice .., .asl _ _ n => valK (.int .i64 n)
  | .map .., .nilm => valK (.int .i64 0)
  | .map .., .map b => .get b fun x => match x with
    | .map _ _ _ es => valK (.int .i64 es.length)
    | .pmap _ _ es => valK (.int .i64 es.length)
    | _ => .fail
  | _, _ => .fail
def pickM : Bool → Int → Int → Int
  | true, a, b => if b > a then b else a
  | false, a, b => if b < a then b else a
def minP (mx : Bool) : Val → List Val → Prog
  | x, [] => valK x
  | .int k a, .int _ b :: r => minP mx (.int k (pickM mx a b)) r
  | _, _ => .fail
def builtinP (T : TypeId → TD) (b : Builtin) (ts : List TypeId) (nid : Nat) (xs : List Val) : Prog :=
  match b, ts, xs with
  | .append, [t, u], [x, y] => match t == u with
    | true => appendP T (T t) nid x y
    | false => .fail
  | .len, [t], [x] => lenP (T t) x
  | .min, _, .int k a :: r => minP false (.int k a) r
  | .max, _, .int k a :: r => minP true (.int k a) r
  | _, _, _ => .fail
def optK {α : Type} (tm : List Val) (x : Option Operand) (K : Option Val → α) : α :=
  match x with
  | none => K none
  | some x => evK tm x fun v => K (some v)

def pickP (t : Bool) (x y : Val) : Prog :=
  match x, y with
  | .bool p, .bool q => valK (.bool (cond t p q))
  | .int k p, .int k' q => match decide (k = k') with
    | true => valK (.int k (cond t p q))
    | false => .fail
  | x, y => match t with
    | true => valK x
    | false => valK y

def opP (T : TypeId → TD) (o : Oper) (tm : List Val) (nid : Nat) : Prog :=
  match o.op with
  | .move x | .assign x => evK tm x valK
  | .pick c a b => evK tm c fun v => match v with
    | .bool t => evK tm a fun x => evK tm b fun y => pickP t x y
    | _ => .fail
  | .alloc t => nb (T t) fun d => appK d.zero [] fun z => .ret (.ptr nid 0) [(nid, .cells z)]
  | .box _ x => evK tm x fun v => match v with
    | .agg cs => .ret (.ptr nid 0) [(nid, .cells cs)]
    | .und | .tup _ => .fail
    | v => .ret (.ptr nid 0) [(nid, .cells [v])]
  | .build t ps => nb (T t) fun d => buildP d tm ps.toList
  | .buildSlice t len ps => buildSliceP T (T t) len nid tm ps.toList
  | .load t a => nb (T t) fun d => evK tm a fun a => loadP d a
  | .store t a x => nb (T t) fun d => evK tm a fun a => evK tm x fun x => storeP d a x
  | .nilCheck x => evK tm x fun x => match x with
    | .ptr b o => valK (.ptr b o)
    | .ep b s i j => valK (.ep b s i j)
    | .rptr cs => valK (.rptr cs)
    | .fn f a c => valK (.fn f a c)
    | _ => .fail
  | .binOp op t x y _ => evK tm x fun x => evK tm y fun y => binPT T (T t) op x y
  | .unOp op _ x => evK tm x fun x => unP op x
  | .convert a b x => evK tm x fun x => convP T (T a) (T b) x
  | .sliceToArrayPointer t x => evK tm x fun x => arrPtrP (T t) x
  | .makeInterface t x => evK tm x fun x => match T t with
    | .iface | .bad => .fail
    | _ => valK (.ifc t x)
  | .makeFunc (.func f) a c => evsK tm a.toList fun a => evsK tm c.toList fun c => valK (.fn f a c)
  | .makeMap t rv => optK tm rv fun rv => makeMapP T (T t) nid rv
  | .lookup t x i ok => evK tm x fun x => evK tm i fun i => lookupP T (T t) x i ok
  | .mapUpdate t m k v => evK tm m fun m => evK tm k fun k => evK tm v fun v => mapUpdateP T (T t) m k v
  | .insert t m k v => evK tm m fun m => evK tm k fun k => evK tm v fun v => mapUpdateP T (T t) m k v
  | .makeSlice t l c => evK tm l fun l => evK tm c fun c => makeSliceP T (T t) nid l c
  | .slice t x lo hi mx => evK tm x fun x => optK tm lo fun lo => optK tm hi fun hi => optK tm mx fun mx => sliceP (T t) x lo hi mx
  | .fieldAddr t x f => evK tm x fun x => fieldAddrP (T t) x f
  | .field t x f => evK tm x fun x => fieldP (T t) x f
  | .indexAddr t x i => evK tm x fun x => evK tm i fun i => indexAddrP (T t) x i
  | .index t x i => evK tm x fun x => evK tm i fun i => indexP (T t) x i
  | .extract x j => evK tm x fun x => extractP x j
  | .call c => match c.callee with
    | .builtin b => evsK tm c.args.toList fun xs => builtinP T b c.argTypes.toList nid xs
    | _ => .fail
  | _ => .fail
end
end Go.AM

set_option linter.unusedVariables false
set_option linter.unusedSimpArgs false
set_option maxRecDepth 100000
namespace Go.AM
open Go.RowKit

abbrev plain : Value → Bool := Value.oneCell'

abbrev Prot := Addr → Option Value
abbrev Map := Nat → Option (Nat × Nat)

/-- Values that name no block of the call's own. -/
inductive RelC (φ : Prot) : Val → Value → Prop
  | bool (b : Bool) : RelC φ (.bool b) (.bool b)
  | int (k : IntKind) (n : Int) : RelC φ (.int k n) (.int k n)
  | str (s : ByteArray) : RelC φ (.str s) (.string s)
  | nilp : RelC φ .nilp (.pointer none)
  | rptr (cs : List Val) (a : Addr) (vals : Nat → Value) (hφ : ∀ j, j < cs.length → φ (a.add j) = some (vals j)) (h1 : ∀ j, j < cs.length → plain (vals j) = true)
      (hr : ∀ j, j < cs.length → RelC φ (cs.getD j .und) (vals j)) : RelC φ (.rptr cs) (.pointer (some a))
  | ext (sz n : Nat) (get : Nat → List Val) (a : Addr) (c : Nat) (vals : Nat → Nat → Value) (hc : n ≤ c) (hl : ∀ i, i < n → (get i).length = sz)
      (hφ : ∀ i j, i < n → j < sz → φ (a.add (i * sz + j)) = some (vals i j)) (h1 : ∀ i j, i < n → j < sz → plain (vals i j) = true)
      (hr : ∀ i j, i < n → j < sz → RelC φ ((get i).getD j .und) (vals i j)) : RelC φ (.ext sz n get) (.slice (some a) n c)
  | extNil (sz : Nat) (get : Nat → List Val) : RelC φ (.ext sz 0 get) (.slice none 0 0)
  | nils : RelC φ .nils (.slice none 0 0)
  | emp (a : Option Addr) : RelC φ .emp (.slice a 0 0)
  | fn (f : FuncId) : RelC φ (.fn f [] []) (.func (.func f) #[] #[])
  | nilf : RelC φ .nilf .nilFunc
  | nilm : RelC φ .nilm (.map none)
  | ifc (t : TypeId) (v : Val) (u : Value) (h : RelC φ v u) : RelC φ (.ifc t v) (.iface t u)
  | nili : RelC φ .nili .nilIface

inductive Rel (ι : Map) (φ : Prot) : Val → Value → Prop
  | c {v : Val} {u : Value} (h : RelC φ v u) : Rel ι φ v u
  | ptr (b off g c : Nat) (h : ι b = some (g, c)) : Rel ι φ (.ptr b off) (.pointer (some ⟨g, off, none⟩))
  | ep (b sz i j g c : Nat) (h : ι b = some (g, c)) : Rel ι φ (.ep b sz i j) (.pointer (some ⟨g, i * sz + j, none⟩))
  | row (b n g c : Nat) (h : ι b = some (g, c)) (hn : n ≤ c) : Rel ι φ (.row b n) (.slice (some ⟨g, 0, none⟩) n c)
  | asl (b off n g c cap : Nat) (h : ι b = some (g, c)) (hn : n ≤ cap) : Rel ι φ (.asl b off n) (.slice (some ⟨g, off, none⟩) n cap)
  | map (b g c : Nat) (h : ι b = some (g, c)) : Rel ι φ (.map b) (.map (some g))
  | fn (f : FuncId) (fs cs : List Val) (us ws : Array Value) (h1 : us.size = fs.length) (h2 : ws.size = cs.length)
      (r1 : ∀ i, i < fs.length → Rel ι φ (fs.getD i .und) (us.getD i undef)) (r2 : ∀ i, i < cs.length → Rel ι φ (cs.getD i .und) (ws.getD i undef)) : Rel ι φ (.fn f fs cs) (.func (.func f) us ws)
  | ifc (t : TypeId) (v : Val) (u : Value) (h : Rel ι φ v u) : Rel ι φ (.ifc t v) (.iface t u)
  | agg (cs : List Val) (us : Array Value) (h : us.size = cs.length) (h1 : ∀ i, i < cs.length → plain (us.getD i undef) = true)
      (hr : ∀ i, i < cs.length → Rel ι φ (cs.getD i .und) (us.getD i undef)) : Rel ι φ (.agg cs) (.agg us)
  | tup (cs : List Val) (us : Array Value) (h : us.size = cs.length) (hr : ∀ i, i < cs.length → Rel ι φ (cs.getD i .und) (us.getD i undef)) : Rel ι φ (.tup cs) (.tuple us)
  | und (u : Value) : Rel ι φ .und u
  | raw (u : Value) (h1 : plain u = true) : Rel ι φ (.raw u) u

def ProtLe (φ φ' : Prot) : Prop := ∀ a v, φ a = some v → φ' a = some v
def MapLe (ι ι' : Map) : Prop := ∀ b p, ι b = some p → ι' b = some p
theorem ProtLe.refl (φ : Prot) : ProtLe φ φ := fun _ _ h => h
theorem ProtLe.trans {a b c : Prot} (h : ProtLe a b) (k : ProtLe b c) : ProtLe a c := fun x v hx => k x v (h x v hx)
theorem MapLe.refl (ι : Map) : MapLe ι ι := fun _ _ h => h
theorem MapLe.trans {a b c : Map} (h : MapLe a b) (k : MapLe b c) : MapLe a c := fun x v hx => k x v (h x v hx)

theorem RelC.mono {φ φ' : Prot} (hp : ProtLe φ φ') {v : Val} {u : Value} (h : RelC φ v u) : RelC φ' v u := by
  induction h with
  | bool b => exact .bool b
  | int k n => exact .int k n
  | str s => exact .str s
  | nilp => exact .nilp
  | rptr cs a vals hφ h1 hr ih => exact .rptr cs a vals (fun j hj => hp _ _ (hφ j hj)) h1 ih
  | ext sz n get a c vals hc hl hφ h1 hr ih => exact .ext sz n get a c vals hc hl (fun i j hi hj => hp _ _ (hφ i j hi hj)) h1 ih
  | extNil sz get => exact .extNil sz get
  | nils => exact .nils
  | emp a => exact .emp a
  | fn f => exact .fn f
  | nilf => exact .nilf
  | nilm => exact .nilm
  | ifc t v u h ih => exact .ifc t v u ih
  | nili => exact .nili

theorem Rel.mono {ι ι' : Map} {φ φ' : Prot} (hm : MapLe ι ι') (hp : ProtLe φ φ') {v : Val} {u : Value} (h : Rel ι φ v u) : Rel ι' φ' v u := by
  induction h with
  | c h => exact .c (h.mono hp)
  | ptr b off g c h => exact .ptr b off g c (hm _ _ h)
  | ep b sz i j g c h => exact .ep b sz i j g c (hm _ _ h)
  | row b n g c h hn => exact .row b n g c (hm _ _ h) hn
  | asl b off n g c cap h hn => exact .asl b off n g c cap (hm _ _ h) hn
  | map b g c h => exact .map b g c (hm _ _ h)
  | fn f fs cs us ws h1 h2 r1 r2 i1 i2 => exact .fn f fs cs us ws h1 h2 i1 i2
  | ifc t v u h ih => exact .ifc t v u ih
  | agg cs us h h1 hr ih => exact .agg cs us h h1 ih
  | tup cs us h hr ih => exact .tup cs us h ih
  | und u => exact .und u
  | raw u h => exact .raw u h

/-! ### blocks -/
/-- cells that name no block of the call's own -/
def CellsG (R : Val → Value → Prop) (vs : List Val) (us : List Value) : Prop :=
  us.length = vs.length ∧ ∀ k, k < vs.length → (us.getD k undef).oneCell' = true ∧ R (vs.getD k .und) (us.getD k undef)
abbrev CellsR (φ : Prot) := CellsG (RelC φ)
theorem CellsR.mono {φ φ' : Prot} (hp : ProtLe φ φ') {vs : List Val} {us : List Value} (h : CellsR φ vs us) : CellsR φ' vs us := ⟨h.1, fun k hk => ⟨(h.2 k hk).1, (h.2 k hk).2.mono hp⟩⟩
def keyV (kag : Bool) (k : List Leaf) (u : Value) : Prop := match kag with
  | true => u = .agg (k.map leafVal).toArray
  | false => ∃ l, k = [l] ∧ u = leafVal l
/-- An entry of a map. -/
structure EntG (R : Val → Value → Prop) (kag vag : Bool) (ks : List LK) (p : MEnt) (e : MapEntry) : Prop where
  key : keyV kag p.1 e.key
  shape : p.1.map Leaf.lk = ks
  cells : CellsG R p.2 e.val.cells.toList
  agg : vag = true → ∃ us, e.val = .agg us
  one : vag = false → e.val.oneCell' = true
abbrev EntR (φ : Prot) := EntG (RelC φ)
def EntsG (R : Val → Value → Prop) (kag vag : Bool) (ks : List LK) : List MEnt → List MapEntry → Prop
  | [], [] => True
  | p :: ps, e :: es => EntG R kag vag ks p e ∧ EntsG R kag vag ks ps es
  | _, _ => False
abbrev EntsR (φ : Prot) := EntsG (RelC φ)
theorem EntsG.mono {R R' : Val → Value → Prop} (hp : ∀ v u, R v u → R' v u) {kag vag : Bool} {ks : List LK} : ∀ {ps : List MEnt} {es : List MapEntry}, EntsG R kag vag ks ps es → EntsG R' kag vag ks ps es
  | [], [], _ => trivial
  | p :: ps, e :: es, h => ⟨⟨h.1.key, h.1.shape, ⟨h.1.cells.1, fun k hk => ⟨(h.1.cells.2 k hk).1, hp _ _ (h.1.cells.2 k hk).2⟩⟩, h.1.agg, h.1.one⟩, EntsG.mono hp h.2⟩
  | [], _ :: _, h => h.elim
  | _ :: _, [], h => h.elim
def BlkOk (ι : Map) (φ : Prot) (w : World) (b : Nat) : Blk → Prop
  | .gone => True
  | .cells cs => ∃ g c arr t, ι b = some (g, c) ∧ w.heap[g]? = some (.cells arr t (0, 0)) ∧ cs.length ≤ arr.size ∧
      (∀ i, i < cs.length → plain (arr.getD i undef) = true ∧ Rel ι φ (cs.getD i .und) (arr.getD i undef)) ∧ ∀ off sp, φ ⟨g, off, sp⟩ = none
  | .row t sz n get pr => ∃ g c arr, ι b = some (g, c) ∧ w.heap[g]? = some (.cells arr t (0, 0)) ∧ 0 < sz ∧ arr.size = c * sz ∧ n ≤ c ∧ c ≤ 9223372036854775807 ∧ pr ≤ n ∧
      (∀ i, i < n → (get i).length = sz) ∧ (∀ i j, i < n → j < sz → RelC φ ((get i).getD j .und) (arr.getD (i * sz + j) undef)) ∧
      (∀ i, i < arr.size → plain (arr.getD i undef) = true) ∧ ∀ off sp, pr * sz ≤ off → φ ⟨g, off, sp⟩ = none
  | .map kag vag ks es => ∃ g c arr clock, ι b = some (g, c) ∧ w.heap[g]? = some (.map arr clock) ∧ EntsR φ kag vag ks es arr.toList ∧ Go.MapKept.Stamped arr clock
  | .pmap kag ks es => ∃ g c arr clock, ι b = some (g, c) ∧ w.heap[g]? = some (.map arr clock) ∧ EntsG (Rel ι φ) kag false ks es arr.toList ∧ Go.MapKept.Stamped arr clock

structure Sim (ι : Map) (φ : Prot) (H : Nat → Blk) (w : World) : Prop where
  blk : ∀ b, BlkOk ι φ w b (H b)
  inj : ∀ b b' g c c', H b ≠ .gone → H b' ≠ .gone → ι b = some (g, c) → ι b' = some (g, c') → b = b'
  prot : ∀ a v, φ a = some v → w.cell? a = some v

/-- What a call may have done to the world, seen from its begin (w0): S the blocks that it was handed. -/
structure Keeps (S : Nat → Prop) (w w' : World) : Prop where
  os : w'.os = w.os
  tape : w'.tape = w.tape
  output : w'.output = w.output
  size : w.heap.size ≤ w'.heap.size
  block : ∀ g, g < w.heap.size → ¬ S g → w'.heap[g]? = w.heap[g]?
theorem Keeps.refl (S : Nat → Prop) (w : World) : Keeps S w w := ⟨rfl, rfl, rfl, Nat.le_refl _, fun _ _ _ => rfl⟩

structure Inv (w0 : World) (S : Nat → Prop) (φ0 : Prot) (ι : Map) (φ : Prot) (H : Nat → Blk) (w : World) : Prop where
  sim : Sim ι φ H w
  keep : Keeps S w0 w
  own : ∀ b g c, H b ≠ .gone → ι b = some (g, c) → S g ∨ w0.heap.size ≤ g
  new : ∀ a, φ a ≠ none → φ0 a ≠ none ∨ S a.block ∨ w0.heap.size ≤ a.block
  le : ProtLe φ0 φ

/-- A block that is there stands below the heap's end. -/
theorem lt_of_get {w : World} {g : Nat} {o : Obj} (h : w.heap[g]? = some o) : g < w.heap.size := (Array.getElem?_eq_some_iff.1 h).1

section
variable {ι : Map} {φ : Prot} {w : World} {b : Nat}
/-- The map and the protected cells may grow, the block's own memory unchanged. -/
theorem BlkOk.mono {ι' : Map} {φ' : Prot} {w' : World} (hm : MapLe ι ι') (hp : ProtLe φ φ') {x : Blk}
    (hw : ∀ g c, ι b = some (g, c) → x ≠ .gone → w'.heap[g]? = w.heap[g]?) (hn : ∀ g c, ι b = some (g, c) → x ≠ .gone → ∀ off sp, φ ⟨g, off, sp⟩ = none → φ' ⟨g, off, sp⟩ = none)
    (h : BlkOk ι φ w b x) : BlkOk ι' φ' w' b x := by
  cases x with
  | gone => trivial
  | cells cs =>
    obtain ⟨g, c, arr, t, e, hh, hs, hr, hf⟩ := h
    exact ⟨g, c, arr, t, hm _ _ e, (hw g c e (by simp)).trans hh, hs, fun i hi => ⟨(hr i hi).1, (hr i hi).2.mono hm hp⟩, fun off sp => hn g c e (by simp) off sp (hf off sp)⟩
  | row t sz n get pr =>
    obtain ⟨g, c, arr, e, hh, h0, hs, hnc, hc, hpr, hl, hr, h1, hf⟩ := h
    exact ⟨g, c, arr, hm _ _ e, (hw g c e (by simp)).trans hh, h0, hs, hnc, hc, hpr, hl, fun i j hi hj => (hr i j hi hj).mono hp, h1, fun off sp ho => hn g c e (by simp) off sp (hf off sp ho)⟩
  | map kag vag ks es =>
    obtain ⟨g, c, arr, clock, e, hh, hr, hst⟩ := h
    exact ⟨g, c, arr, clock, hm _ _ e, (hw g c e (by simp)).trans hh, hr.mono fun _ _ h => h.mono hp, hst⟩
  | pmap kag ks es =>
    obtain ⟨g, c, arr, clock, e, hh, hr, hst⟩ := h
    exact ⟨g, c, arr, clock, hm _ _ e, (hw g c e (by simp)).trans hh, hr.mono fun _ _ h => h.mono hm hp, hst⟩
/-- A block that is there has its place. -/
theorem BlkOk.place {x : Blk} (h : BlkOk ι φ w b x) (hx : x ≠ .gone) : ∃ g c, ι b = some (g, c) ∧ g < w.heap.size := by
  cases x with
  | gone => exact absurd rfl hx
  | cells cs => obtain ⟨g, c, arr, t, e, hh, _⟩ := h; exact ⟨g, c, e, lt_of_get hh⟩
  | row t sz n get pr => obtain ⟨g, c, arr, e, hh, _⟩ := h; exact ⟨g, c, e, lt_of_get hh⟩
  | map kag vag ks es => obtain ⟨g, c, arr, clock, e, hh, _⟩ := h; exact ⟨g, c, e, lt_of_get hh⟩
  | pmap kag ks es => obtain ⟨g, c, arr, clock, e, hh, _⟩ := h; exact ⟨g, c, e, lt_of_get hh⟩
end

def setM (ι : Map) (b : Nat) (p : Nat × Nat) : Map := fun x => if x = b then some p else ι x
def setH (H : Nat → Blk) (b : Nat) (x : Blk) : Nat → Blk := fun y => if y = b then x else H y
theorem setM_le {ι : Map} {b : Nat} {p : Nat × Nat} (h : ι b = none) : MapLe ι (setM ι b p) := by
  intro x q hx
  unfold setM
  by_cases e : x = b
  · subst e; rw [h] at hx; cases hx
  · rw [if_neg e]; exact hx

section
variable {w0 : World} {S : Nat → Prop} {φ0 : Prot} {ι : Map} {φ : Prot} {H : Nat → Blk} {w : World}

theorem Inv.drew (h : Inv w0 S φ0 ι φ H w) (n : Nat) : Inv w0 S φ0 ι φ H { w with drawn := n } :=
  ⟨⟨fun b => (h.sim.blk b).mono (.refl _) (.refl _) (fun _ _ _ _ => rfl) (fun _ _ _ _ _ _ h => h), h.sim.inj, h.sim.prot⟩, ⟨h.keep.os, h.keep.tape, h.keep.output, h.keep.size, h.keep.block⟩, h.own, h.new, h.le⟩

theorem cell_lt {a : Addr} {v : Value} (h : w.cell? a = some v) : a.block < w.heap.size := World.block_lt_of_cell? w a h

/-- A new block, of whatever make, at a name that was free. -/
theorem Inv.alloc (h : Inv w0 S φ0 ι φ H w) {b c : Nat} {o : Obj} {x : Blk} (hb : ι b = none)
    (hx : BlkOk (setM ι b (w.heap.size, c)) φ (w.alloc o) b x) : Inv w0 S φ0 (setM ι b (w.heap.size, c)) φ (setH H b x) (w.alloc o) := by
  have hm : MapLe ι (setM ι b (w.heap.size, c)) := setM_le hb
  have old : ∀ g, g < w.heap.size → (w.alloc o).heap[g]? = w.heap[g]? := fun g hg => Below.heap_alloc w o g hg
  have hlt : ∀ y g c', H y ≠ .gone → ι y = some (g, c') → g < w.heap.size := fun y g c' hy e => by
    obtain ⟨g', c'', e', hl⟩ := (h.sim.blk y).place hy
    rw [e] at e'; injection e' with e'; injection e' with e1 e2; omega
  refine ⟨⟨fun y => ?_, fun y y' g c1 c2 hy hy' e e' => ?_, fun a v ha => ?_⟩, ⟨h.keep.os, h.keep.tape, h.keep.output, ?_, fun g hg hs => ?_⟩, fun y g c' hy e => ?_, h.new, h.le⟩
  · unfold setH
    by_cases hyb : y = b
    · subst hyb; rw [if_pos rfl]; exact hx
    · rw [if_neg hyb]
      exact (h.sim.blk y).mono hm (.refl _) (fun g c' e hne => old g (hlt y g c' hne e)) (fun _ _ _ _ _ _ h => h)
  · unfold setH at hy hy'
    unfold setM at e e'
    by_cases hyb : y = b <;> by_cases hyb' : y' = b
    · rw [hyb, hyb']
    · rw [if_pos hyb] at e; rw [if_neg hyb'] at e' hy'
      have := hlt y' g c2 hy' e'
      injection e with e; injection e with e1 _; omega
    · rw [if_neg hyb] at e hy; rw [if_pos hyb'] at e'
      have := hlt y g c1 hy e
      injection e' with e'; injection e' with e1 _; omega
    · rw [if_neg hyb] at e hy; rw [if_neg hyb'] at e' hy'
      exact h.sim.inj y y' g c1 c2 hy hy' e e'
  · have hc := h.sim.prot a v ha
    rw [← hc]
    exact World.cell?_of_block (old a.block (cell_lt hc))
  · have := h.keep.size; show w0.heap.size ≤ (w.heap.push o).size; rw [Array.size_push]; omega
  · rw [old g (by have := h.keep.size; omega)]; exact h.keep.block g hg hs
  · unfold setH at hy
    unfold setM at e
    by_cases hyb : y = b
    · rw [if_pos hyb] at e; injection e with e; injection e with e1 _
      exact .inr (by have := h.keep.size; omega)
    · rw [if_neg hyb] at e hy; exact h.own y g c' hy e

/-- A block of the call's own is written anew. -/
theorem Inv.write (h : Inv w0 S φ0 ι φ H w) {b g c : Nat} {x : Blk} {w' : World} (hb : ι b = some (g, c)) (hH : H b ≠ .gone)
    (hos : w'.os = w.os) (htape : w'.tape = w.tape) (hout : w'.output = w.output) (hsize : w'.heap.size = w.heap.size) (hold : ∀ k, k ≠ g → w'.heap[k]? = w.heap[k]?)
    (hprot : ∀ a v, φ a = some v → a.block = g → w'.cell? a = some v) (hx : BlkOk ι φ w' b x) : Inv w0 S φ0 ι φ (setH H b x) w' := by
  have hne : ∀ y, y ≠ b → H y ≠ .gone → ∀ g' c', ι y = some (g', c') → g' ≠ g := fun y hy hg g' c' e e' => by
    subst e'; exact hy (h.sim.inj y b g' c' c hg hH e hb)
  refine ⟨⟨fun y => ?_, fun y y' g1 c1 c2 hy hy' e e' => ?_, fun a v ha => ?_⟩, ⟨hos.trans h.keep.os, htape.trans h.keep.tape, hout.trans h.keep.output, by rw [hsize]; exact h.keep.size, fun k hk hs => ?_⟩, fun y g' c' hy e => ?_, h.new, h.le⟩
  · unfold setH
    by_cases hyb : y = b
    · subst hyb; rw [if_pos rfl]; exact hx
    · rw [if_neg hyb]
      exact (h.sim.blk y).mono (.refl _) (.refl _) (fun g' c' e hg => hold g' (hne y hyb hg g' c' e)) (fun _ _ _ _ _ _ h => h)
  · have fix : ∀ y, setH H b x y ≠ .gone → H y ≠ .gone := fun y hy => by
      unfold setH at hy
      by_cases hyb : y = b
      · subst hyb; exact hH
      · rw [if_neg hyb] at hy; exact hy
    exact h.sim.inj y y' g1 c1 c2 (fix y hy) (fix y' hy') e e'
  · by_cases hag : a.block = g
    · exact hprot a v ha hag
    · rw [← h.sim.prot a v ha]; exact World.cell?_of_block (hold a.block hag)
  · by_cases hkg : k = g
    · subst hkg
      rcases h.own b k c hH hb with h1 | h1
      · exact absurd h1 hs
      · omega
    · rw [hold k hkg]; exact h.keep.block k hk hs
  · unfold setH at hy
    by_cases hyb : y = b
    · subst hyb; exact h.own y g' c' hH e
    · rw [if_neg hyb] at hy; exact h.own y g' c' hy e

/-- More cells of a block of the call's own are never written again. -/
theorem Inv.lend (h : Inv w0 S φ0 ι φ H w) {b g c : Nat} {x : Blk} {φ' : Prot} (hb : ι b = some (g, c)) (hH : H b ≠ .gone) (hp : ProtLe φ φ')
    (hout : ∀ a, a.block ≠ g → φ' a = φ a) (hin : ∀ a v, φ' a = some v → a.block = g → w.cell? a = some v) (hx : BlkOk ι φ' w b x) : Inv w0 S φ0 ι φ' (setH H b x) w := by
  have hne : ∀ y, y ≠ b → H y ≠ .gone → ∀ g' c', ι y = some (g', c') → g' ≠ g := fun y hy hg g' c' e e' => by
    subst e'; exact hy (h.sim.inj y b g' c' c hg hH e hb)
  refine ⟨⟨fun y => ?_, fun y y' g1 c1 c2 hy hy' e e' => ?_, fun a v ha => ?_⟩, h.keep, fun y g' c' hy e => ?_, fun a ha => ?_, h.le.trans hp⟩
  · unfold setH
    by_cases hyb : y = b
    · subst hyb; rw [if_pos rfl]; exact hx
    · rw [if_neg hyb]
      exact (h.sim.blk y).mono (.refl _) hp (fun _ _ _ _ => rfl) (fun g' c' e hg off sp hφ => by rw [hout _ (hne y hyb hg g' c' e)]; exact hφ)
  · have fix : ∀ y, setH H b x y ≠ .gone → H y ≠ .gone := fun y hy => by
      unfold setH at hy
      by_cases hyb : y = b
      · subst hyb; exact hH
      · rw [if_neg hyb] at hy; exact hy
    exact h.sim.inj y y' g1 c1 c2 (fix y hy) (fix y' hy') e e'
  · by_cases hag : a.block = g
    · exact hin a v ha hag
    · rw [hout a hag] at ha; exact h.sim.prot a v ha
  · unfold setH at hy
    by_cases hyb : y = b
    · subst hyb; exact h.own y g' c' hH e
    · rw [if_neg hyb] at hy; exact h.own y g' c' hy e
  · by_cases hag : a.block = g
    · rw [hag]; exact .inr (h.own b g c hH hb)
    · rw [hout a hag] at ha; exact h.new a ha

/-- A block is forgotten. -/
theorem Inv.forget (h : Inv w0 S φ0 ι φ H w) (b : Nat) : Inv w0 S φ0 ι φ (setH H b .gone) w := by
  have fix : ∀ y, setH H b .gone y ≠ .gone → y ≠ b ∧ H y ≠ .gone := fun y hy => by
    unfold setH at hy
    by_cases hyb : y = b
    · rw [if_pos hyb] at hy; exact absurd rfl hy
    · rw [if_neg hyb] at hy; exact ⟨hyb, hy⟩
  refine ⟨⟨fun y => ?_, fun y y' g1 c1 c2 hy hy' e e' => h.sim.inj y y' g1 c1 c2 (fix y hy).2 (fix y' hy').2 e e', h.sim.prot⟩, h.keep, fun y g' c' hy e => h.own y g' c' (fix y hy).2 e, h.new, h.le⟩
  unfold setH
  by_cases hyb : y = b
  · rw [if_pos hyb]; trivial
  · rw [if_neg hyb]; exact h.sim.blk y
end
end Go.AM

set_option linter.unusedVariables false
set_option linter.unusedSimpArgs false
set_option maxRecDepth 100000
namespace Go.AM

theorem rep_length (n : Nat) (l : List Val) : (rep n l).length = n * l.length := by
  induction n with
  | zero => simp [rep]
  | succ n ih => simp [rep, ih, Nat.add_mul, Nat.add_comm]
mutual
theorem TD.zero_length : ∀ d : TD, d.zero.length = d.size
  | .bool => rfl
  | .int _ => rfl
  | .str => rfl
  | .struct fs => by simp [TD.zero, TD.size, TD.zeros_length fs]
  | .arr n e => by simp [TD.zero, TD.size, rep_length, TD.zero_length e]
  | .slice .. => rfl
  | .ptr _ => rfl
  | .map .. => rfl
  | .func => rfl
  | .iface => rfl
  | .bad => rfl
theorem TD.zeros_length : ∀ fs : List TD, (TD.zeros fs).length = TD.sizes fs
  | [] => rfl
  | f :: fs => by simp [TD.zeros, TD.sizes, TD.zero_length f, TD.zeros_length fs]
end

def CellsRel (φ : Prot) (vs : List Val) (us : List Value) : Prop :=
  us.length = vs.length ∧ ∀ k, k < vs.length → (us.getD k undef).oneCell' = true ∧ RelC φ (vs.getD k .und) (us.getD k undef)

/-- The model's record of a type: its size, its zero value. -/
def Zok (P : Program) (t : TypeId) (d : TD) : Prop :=
  ∃ i z, P.info? t = some i ∧ i.size = d.size ∧ i.zero = some z ∧ (∀ φ, CellsRel φ d.zero z.cells.toList) ∧ (d.isAgg = true → ∃ us, z = .agg us) ∧ (d.isAgg = false → z.oneCell' = true)

mutual
def Good (P : Program) : TD → TypeId → Prop
  | .bool, t => P.underlying t = some .bool ∧ Zok P t .bool
  | .int k, t => P.underlying t = some (.int k) ∧ Zok P t (.int k)
  | .str, t => P.underlying t = some .string ∧ Zok P t .str
  | .struct fs, t => (∃ fields, P.underlying t = some (.struct fields) ∧ GoodF P fs fields.toList 0) ∧ (TD.flats fs = true → P.stoodInHeld t = false ∧ P.eqGuardType P.depth t = false) ∧ Zok P t (.struct fs)
  | .arr n e, t => (∃ el, P.underlying t = some (.array n el) ∧ Good P e el) ∧ (e.flat = true → P.eqGuardType P.depth t = false) ∧ Zok P t (.arr n e)
  | .slice e sz by_, t => P.underlying t = some (.slice e) ∧ (∃ i, P.info? e = some i ∧ i.size = sz ∧ i.bytes = by_) ∧ Zok P t (.slice e sz by_)
  | .ptr e, t => P.underlying t = some (.pointer e) ∧ Zok P t (.ptr e)
  | .map k e, t => P.underlying t = some (.map k e) ∧ Zok P t (.map k e)
  | .func, t => (∃ ps rs v, P.underlying t = some (.func ps rs v)) ∧ Zok P t .func
  | .iface, t => (∃ ms, P.underlying t = some (.interface ms)) ∧ Zok P t .iface
  | .bad, _ => False
def GoodF (P : Program) : List TD → List Field → Nat → Prop
  | [], [], _ => True
  | d :: ds, f :: fs, o => f.offset = o ∧ (f.name == "_") = false ∧ Good P d f.type ∧ GoodF P ds fs (o + d.size)
  | _, _, _ => False
end

def TOk (P : Program) (T : TypeId → TD) : Prop := ∀ t d, T t = d → d = .bad ∨ Good P d t

/-! ### the same as a Bool, for the kernel -/
def cellB : Value → Val → Bool
  | .bool a, .bool b => a == b
  | .int k a, .int k' b => decide (k = k') && a == b
  | .string s, .str r => s.size == 0 && r.size == 0
  | .slice none 0 0, .nils => true
  | .pointer none, .nilp => true
  | .map none, .nilm => true
  | .nilFunc, .nilf => true
  | .nilIface, .nili => true
  | _, _ => false
def cellsB : List Value → List Val → Bool
  | [], [] => true
  | u :: us, v :: vs => cellB u v && cellsB us vs
  | _, _ => false
theorem cellB_ok {φ : Prot} {u : Value} {v : Val} (h : cellB u v = true) : u.oneCell' = true ∧ RelC φ v u := by
  unfold cellB at h
  split at h
  · rw [beq_iff_eq] at h; subst h; exact ⟨rfl, .bool _⟩
  · simp only [Bool.and_eq_true, decide_eq_true_eq, beq_iff_eq] at h; obtain ⟨rfl, rfl⟩ := h; exact ⟨rfl, .int _ _⟩
  · rename_i s r
    simp only [Bool.and_eq_true, beq_iff_eq] at h
    have e : s = r := by
      cases s with | mk a => cases r with | mk b =>
      have h1 : a.size = 0 := h.1
      have h2 : b.size = 0 := h.2
      rw [Array.eq_empty_of_size_eq_zero h1, Array.eq_empty_of_size_eq_zero h2]
    subst e; exact ⟨rfl, .str _⟩
  · exact ⟨rfl, .nils⟩
  · exact ⟨rfl, .nilp⟩
  · exact ⟨rfl, .nilm⟩
  · exact ⟨rfl, .nilf⟩
  · exact ⟨rfl, .nili⟩
  · cases h
theorem cellsB_ok {φ : Prot} : ∀ {us : List Value} {vs : List Val}, cellsB us vs = true → CellsRel φ vs us
  | [], [], _ => ⟨rfl, fun k hk => absurd hk (by simp)⟩
  | u :: us, v :: vs, h => by
    simp only [cellsB, Bool.and_eq_true] at h
    have ih := cellsB_ok (φ := φ) h.2
    refine ⟨by simp [ih.1], fun k hk => ?_⟩
    cases k with
    | zero => exact cellB_ok h.1
    | succ k => exact ih.2 k (by simpa using hk)
  | [], _ :: _, h => by cases h
  | _ :: _, [], h => by cases h
def zokB (P : Program) (t : TypeId) (d : TD) : Bool :=
  match P.info? t with
  | some i => i.size == d.size && match i.zero with
    | some z => cellsB z.cells.toList d.zero && (match z with | .agg _ => d.isAgg | z => !d.isAgg && z.oneCell')
    | none => false
  | none => false
theorem zokB_ok {P : Program} {t : TypeId} {d : TD} (h : zokB P t d = true) : Zok P t d := by
  unfold zokB at h
  split at h
  · rename_i i hi
    simp only [Bool.and_eq_true, beq_iff_eq] at h
    obtain ⟨h1, h2⟩ := h
    split at h2
    · rename_i z hz
      rw [Bool.and_eq_true] at h2
      obtain ⟨h3, h4⟩ := h2
      refine ⟨i, z, hi, h1, hz, fun φ => cellsB_ok h3, ?_, ?_⟩
      · intro hd; cases z <;> simp_all
      · intro hd; cases z <;> simp_all
    · cases h2
  · cases h
mutual
def goodB (P : Program) : TD → TypeId → Bool
  | .bool, t => (match P.underlying t with | some .bool => true | _ => false) && zokB P t .bool
  | .int k, t => (match P.underlying t with | some (.int k') => decide (k = k') | _ => false) && zokB P t (.int k)
  | .str, t => (match P.underlying t with | some .string => true | _ => false) && zokB P t .str
  | .struct fs, t => (match P.underlying t with | some (.struct fields) => goodFB P fs fields.toList 0 | _ => false) && (!TD.flats fs || (!P.stoodInHeld t && !P.eqGuardType P.depth t)) && zokB P t (.struct fs)
  | .arr n e, t => (match P.underlying t with | some (.array m el) => n == m && goodB P e el | _ => false) && (!e.flat || !P.eqGuardType P.depth t) && zokB P t (.arr n e)
  | .slice e sz by_, t => (match P.underlying t with | some (.slice e') => e == e' | _ => false) && (match P.info? e with | some i => i.size == sz && i.bytes == by_ | _ => false) && zokB P t (.slice e sz by_)
  | .ptr e, t => (match P.underlying t with | some (.pointer e') => e == e' | _ => false) && zokB P t (.ptr e)
  | .map k e, t => (match P.underlying t with | some (.map k' e') => k == k' && e == e' | _ => false) && zokB P t (.map k e)
  | .func, t => (match P.underlying t with | some (.func ..) => true | _ => false) && zokB P t .func
  | .iface, t => (match P.underlying t with | some (.interface _) => true | _ => false) && zokB P t .iface
  | .bad, _ => false
def goodFB (P : Program) : List TD → List Field → Nat → Bool
  | [], [], _ => true
  | d :: ds, f :: fs, o => f.offset == o && !(f.name == "_") && goodB P d f.type && goodFB P ds fs (o + d.size)
  | _, _, _ => false
end
mutual
theorem goodB_ok {P : Program} : ∀ {d : TD} {t : TypeId}, goodB P d t = true → Good P d t
  | .bool, t, h => by
    simp only [goodB, Bool.and_eq_true] at h
    refine ⟨?_, zokB_ok h.2⟩
    have := h.1; split at this <;> first | assumption | cases this
  | .int k, t, h => by
    simp only [goodB, Bool.and_eq_true] at h
    refine ⟨?_, zokB_ok h.2⟩
    have := h.1; split at this
    · rename_i k' hk; rw [decide_eq_true_eq] at this; subst this; exact hk
    · cases this
  | .str, t, h => by
    simp only [goodB, Bool.and_eq_true] at h
    refine ⟨?_, zokB_ok h.2⟩
    have := h.1; split at this <;> first | assumption | cases this
  | .struct fs, t, h => by
    simp only [goodB, Bool.and_eq_true] at h
    refine ⟨?_, ?_, zokB_ok h.2⟩
    · have := h.1.1; split at this
      · rename_i fields hf; exact ⟨fields, hf, goodFB_ok this⟩
      · cases this
    · intro hf
      have := h.1.2
      simp [hf] at this
      exact this
  | .arr n e, t, h => by
    simp only [goodB, Bool.and_eq_true] at h
    refine ⟨?_, ?_, zokB_ok h.2⟩
    · have := h.1.1; split at this
      · rename_i m el hf; rw [Bool.and_eq_true, beq_iff_eq] at this; obtain ⟨rfl, h2⟩ := this; exact ⟨el, hf, goodB_ok h2⟩
      · cases this
    · intro hf
      have := h.1.2
      simp [hf] at this
      exact this
  | .slice e sz by_, t, h => by
    simp only [goodB, Bool.and_eq_true] at h
    refine ⟨?_, ?_, zokB_ok h.2⟩
    · have := h.1.1; split at this
      · rename_i e' hf; rw [beq_iff_eq] at this; subst this; exact hf
      · cases this
    · have := h.1.2; split at this
      · rename_i i hi; rw [Bool.and_eq_true, beq_iff_eq, beq_iff_eq] at this; exact ⟨i, hi, this⟩
      · cases this
  | .ptr e, t, h => by
    simp only [goodB, Bool.and_eq_true] at h
    refine ⟨?_, zokB_ok h.2⟩
    have := h.1; split at this
    · rename_i e' hf; rw [beq_iff_eq] at this; subst this; exact hf
    · cases this
  | .map k e, t, h => by
    simp only [goodB, Bool.and_eq_true] at h
    refine ⟨?_, zokB_ok h.2⟩
    have := h.1; split at this
    · rename_i k' e' hf; rw [Bool.and_eq_true, beq_iff_eq, beq_iff_eq] at this; obtain ⟨rfl, rfl⟩ := this; exact hf
    · cases this
  | .func, t, h => by
    simp only [goodB, Bool.and_eq_true] at h
    refine ⟨?_, zokB_ok h.2⟩
    have := h.1; split at this
    · rename_i a b c hf; exact ⟨a, b, c, hf⟩
    · cases this
  | .iface, t, h => by
    simp only [goodB, Bool.and_eq_true] at h
    refine ⟨?_, zokB_ok h.2⟩
    have := h.1; split at this
    · rename_i ms hf; exact ⟨ms, hf⟩
    · cases this
  | .bad, _, h => by cases h
theorem goodFB_ok {P : Program} : ∀ {ds : List TD} {fs : List Field} {o : Nat}, goodFB P ds fs o = true → GoodF P ds fs o
  | [], [], _, _ => trivial
  | d :: ds, f :: fs, o, h => by
    simp only [goodFB, Bool.and_eq_true, beq_iff_eq, Bool.not_eq_true'] at h
    exact ⟨h.1.1.1, h.1.1.2, goodB_ok h.1.2, goodFB_ok h.2⟩
  | [], _ :: _, _, h => by cases h
  | _ :: _, [], _, h => by cases h
end
/-- A table as a list: what isn't in it is not known. -/
def tableOf (l : List (TypeId × TD)) (t : TypeId) : TD := match l with
  | [] => .bad
  | (u, d) :: l => match u == t with
    | true => d
    | false => tableOf l t
def tableB (P : Program) (l : List (TypeId × TD)) : Bool := l.all fun (t, d) => goodB P d t
theorem tableB_ok {P : Program} : ∀ {l : List (TypeId × TD)}, tableB P l = true → TOk P (tableOf l)
  | [], _ => fun t d e => .inl e.symm
  | (u, x) :: l, h => by
    intro t d e
    simp only [tableB, List.all_cons, Bool.and_eq_true] at h
    unfold tableOf at e
    split at e
    · rename_i hu; rw [beq_iff_eq] at hu; subst hu; subst e; exact .inr (goodB_ok h.1)
    · exact tableB_ok (l := l) h.2 t d e

theorem Good.zok {P : Program} {d : TD} {t : TypeId} (h : Good P d t) : Zok P t d := by
  cases d <;> simp only [Good] at h <;> first | exact h.2 | exact h.2.2 | exact h.elim
/-- What a type is at bottom. -/
theorem Good.isAgg_run {P : Program} {d : TD} {t : TypeId} (h : Good P d t) (w : World) : (isAgg t).run P w = .ok d.isAgg w := by
  cases d <;> simp only [Good] at h
  case struct fs => obtain ⟨⟨fields, hf, _⟩, _⟩ := h; simp [isAgg, run_underlying hf, TD.isAgg]
  case arr n e => obtain ⟨⟨el, hf, _⟩, _⟩ := h; simp [isAgg, run_underlying hf, TD.isAgg]
  case func => obtain ⟨⟨a, b, c, hf⟩, _⟩ := h; simp [isAgg, run_underlying hf, TD.isAgg]
  case iface => obtain ⟨⟨ms, hf⟩, _⟩ := h; simp [isAgg, run_underlying hf, TD.isAgg]
  all_goals (obtain ⟨hf, _⟩ := h; simp [isAgg, run_underlying hf, TD.isAgg])
theorem run_info {P : Program} {t : TypeId} {i : TypeInfo} (h : P.info? t = some i) (w : World) : (typeInfo t).run P w = .ok i w := by
  simp [typeInfo, program, Sem.run, h]
theorem Good.size_run {P : Program} {d : TD} {t : TypeId} (h : Good P d t) (w : World) : (sizeOf t).run P w = .ok d.size w := by
  obtain ⟨i, z, hi, hs, _⟩ := h.zok
  simp [sizeOf, run_info hi, hs]
end Go.AM

