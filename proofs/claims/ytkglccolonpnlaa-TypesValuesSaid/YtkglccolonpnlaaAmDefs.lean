/- The abstract machine, its values, its programs and its operations: definitions alone; nothing is proved here. -/
import GoSem.Core.Code
import GoSem.Core.View
import GoSem.Op.String
set_option linter.unusedVariables false
set_option linter.unusedSimpArgs false
set_option maxRecDepth 100000
namespace Go.AM
noncomputable section

/-- A value: what a call of its own made is named by a block's number; 'ext', 'rptr' are memory that is never written again. -/
inductive Val where
  | bool (b : Bool)
  | int (k : IntKind) (n : Int)
  | str (s : ByteArray)
  | ptr (b off : Nat)
  | ep (b sz i j : Nat)
  | rptr (cs : List Val)
  | nilp
  | row (b n : Nat)
  | asl (b off n : Nat)
  | ext (sz n : Nat) (get : Nat → List Val)
  | nils
  | emp
  | fn (f : FuncId) (first cap : List Val)
  | nilf
  | map (b : Nat)
  | nilm
  | ifc (t : TypeId) (v : Val)
  | nili
  | agg (cs : List Val)
  | tup (vs : List Val)
  | und

instance : Inhabited Val := ⟨.und⟩

/-- What a type looks like. -/
inductive TD where
  | bool | int (k : IntKind) | str
  | struct (fs : List TD)
  | arr (n : Nat) (e : TD)
  | slice (e : TypeId) (sz bytes : Nat)
  | ptr (e : TypeId)
  | map (k e : TypeId)
  | func
  | iface
  | bad

mutual
def TD.size : TD → Nat
  | .struct fs => TD.sizes fs
  | .arr n e => n * e.size
  | _ => 1
def TD.sizes : List TD → Nat
  | [] => 0
  | f :: fs => f.size + TD.sizes fs
end
def rep : Nat → List Val → List Val
  | 0, _ => []
  | n + 1, l => l ++ rep n l
mutual
def TD.zero : TD → List Val
  | .bool => [.bool false]
  | .int k => [.int k 0]
  | .str => [.str ByteArray.empty]
  | .struct fs => TD.zeros fs
  | .arr n e => rep n e.zero
  | .slice .. => [.nils]
  | .ptr _ => [.nilp]
  | .map .. => [.nilm]
  | .func => [.nilf]
  | .iface => [.nili]
  | .bad => [.und]
def TD.zeros : List TD → List Val
  | [] => []
  | f :: fs => f.zero ++ TD.zeros fs
end
def TD.isAgg : TD → Bool
  | .struct _ | .arr .. => true
  | _ => false
mutual
/-- numbers, bools, strings alone -/
def TD.flat : TD → Bool
  | .bool | .int _ | .str => true
  | .struct fs => TD.flats fs
  | .arr _ e => e.flat
  | _ => false
def TD.flats : List TD → Bool
  | [] => true
  | f :: fs => f.flat && TD.flats fs
end
def repT : Nat → List TD → List TD
  | 0, _ => []
  | n + 1, l => l ++ repT n l
mutual
/-- its cells' kinds -/
def TD.leafs : TD → List TD
  | .struct fs => TD.leafss fs
  | .arr n e => repT n e.leafs
  | d => [d]
def TD.leafss : List TD → List TD
  | [] => []
  | f :: fs => f.leafs ++ TD.leafss fs
end
mutual
def TD.depth : TD → Nat
  | .struct fs => TD.depths fs + 1
  | .arr _ e => e.depth + 1
  | _ => 1
def TD.depths : List TD → Nat
  | [] => 0
  | f :: fs => max f.depth (TD.depths fs)
end
def leafB : TD → Val → Bool
  | .bool, .bool _ => true
  | .int k, .int k' _ => decide (k = k')
  | .str, .str _ => true
  | _, _ => false
def leafsB : List TD → List Val → Bool
  | [], [] => true
  | d :: ds, v :: vs => leafB d v && leafsB ds vs
  | _, _ => false
/-- Field f: where it begins, and its kind. -/
def fieldAt : List TD → Nat → Nat → Option (Nat × TD)
  | [], _, _ => none
  | t :: _, 0, o => some (o, t)
  | t :: ts, f + 1, o => fieldAt ts f (o + t.size)

/-- A cell of a map's key. -/
inductive Leaf where
  | b (x : Bool)
  | i (k : IntKind) (n : Int)
  | s (x : ByteArray)
  deriving DecidableEq
/-- Its kind. -/
inductive LK where
  | b
  | i (k : IntKind)
  | s
  deriving DecidableEq
def Leaf.lk : Leaf → LK
  | .b _ => .b
  | .i k _ => .i k
  | .s _ => .s
def leafVal : Leaf → Value
  | .b x => .bool x
  | .i k n => .int k n
  | .s x => .string x
abbrev MEnt := List Leaf × List Val
/-- A map's entries, each once; the first one of a key counts. -/
def mfind (k : List Leaf) : List MEnt → Option (List Val)
  | [] => none
  | p :: es => match decide (p.1 = k) with
    | true => some p.2
    | false => mfind k es
def mput (k : List Leaf) (v : List Val) : List MEnt → List MEnt
  | [] => [(k, v)]
  | p :: es => match decide (p.1 = k) with
    | true => (k, v) :: es
    | false => p :: mput k v es
inductive Blk where
  | cells (cs : List Val)
  | row (e : TypeId) (sz n : Nat) (get : Nat → List Val) (prot : Nat)
  | map (kag vag : Bool) (ks : List LK) (es : List MEnt)
  | gone

abbrev Upd := List (Nat × Blk)

/-- What an operation does: it reads blocks; it needs something; it hands back a value and writes blocks. -/
inductive Prog where
  | ret (v : Val) (u : Upd)
  | get (b : Nat) (k : Blk → Prog)
  | need (p : Prop) [d : Decidable p] (k : Prog)
  | fail

def Prog.run : Prog → (Nat → Blk) → List Nat → (Val → Upd → List Nat → Prop) → Prop
  | .ret v u, _, r, K => K v u r
  | .get b k, H, r, K => (k (H b)).run H (b :: r) K
  | @Prog.need p _ k, H, r, K => p ∧ k.run H r K
  | .fail, _, _, _ => False

/-! ### in continuation form: what is handed on is written out -/
section
variable {α : Type}
/- 'putK', 'getK' by the recursors themselves: the kernel takes them in fewer steps. -/
def putK (l : List Val) : Nat → Val → (List Val → α) → α :=
  List.rec (motive := fun _ => Nat → Val → (List Val → α) → α) (fun _ _ K => K [])
    (fun x l ih n v => Nat.rec (motive := fun _ => (List Val → α) → α) (fun K => K (v :: l)) (fun m _ K => ih m v fun l' => K (x :: l')) n) l
def getK (l : List Val) : Nat → (Val → α) → α :=
  List.rec (motive := fun _ => Nat → (Val → α) → α) (fun _ K => K (.tup []))
    (fun x _ ih n => Nat.rec (motive := fun _ => (Val → α) → α) (fun K => K x) (fun m _ => ih m) n) l
def dropK : List Val → Nat → (List Val → α) → α
  | l, 0, K => K l
  | [], _ + 1, K => K []
  | _ :: l, n + 1, K => dropK l n K
def takeK : List Val → Nat → (List Val → α) → α
  | _, 0, K => K []
  | [], _ + 1, K => K []
  | x :: l, n + 1, K => takeK l n fun l' => K (x :: l')
def appK : List Val → List Val → (List Val → α) → α
  | [], m, K => K m
  | x :: l, m, K => appK l m fun l' => K (x :: l')
def ofValueK (v : Value) (K : Val → α) : α :=
  match v with
  | .bool b => K (.bool b)
  | .int k n => K (.int k n)
  | .string s => K (.str s)
  | .pointer none => K .nilp
  | .slice none 0 0 => K .nils
  | .map none => K .nilm
  | .nilFunc => K .nilf
  | .nilIface => K .nili
  | .tuple ⟨[]⟩ => K (.tup [])
  | _ => K .und
def evK (tm : List Val) (x : Operand) (K : Val → α) : α :=
  match x with
  | .tmp t => getK tm t K
  | .const v => ofValueK v K
  | .global _ => K .und
  | .func f => K (.fn f [] [])
def evsK (tm : List Val) : List Operand → (List Val → α) → α
  | [], K => K []
  | x :: xs, K => evK tm x fun v => evsK tm xs fun vs => K (v :: vs)
end
def cellsOf : Val → List Val
  | .agg cs => cs
  | v => [v]
/-- cells cs, those from off on replaced by new -/
def splice (cs : List Val) (off : Nat) (new : List Val) (K : List Val → Prog) : Prog :=
  takeK cs off fun a => dropK cs (off + new.length) fun c => appK new c fun nc => appK a nc K
def wrapVal (t : TD) (cs : List Val) (K : Val → Prog) : Prog :=
  match t.isAgg with
  | true => K (.agg cs)
  | false => match cs with
    | [v] => K v
    | _ => .fail

/-- no block is referred to (a cell of a row) -/
def closed : Val → Bool
  | .bool _ | .int .. | .str _ | .rptr _ | .nilp | .ext .. | .nils | .emp | .nilf | .nilm | .nili => true
  | .fn _ [] [] => true
  | .ifc _ v => closed v
  | _ => false
def closedL : List Val → Bool
  | [] => true
  | v :: vs => closed v && closedL vs

/-! ### operations -/
/-- a type that is known -/
def nb (d : TD) (k : TD → Prog) : Prog := match d with
  | .bad => .fail
  | d => k d
def arith (op : BinOp) (k : IntKind) (a b : Int) : Option Val :=
  match op with
  | .add => some (.int k (k.wrap (a + b)))
  | .sub => some (.int k (k.wrap (a - b)))
  | .mul => some (.int k (k.wrap (a * b)))
  | .and => some (.int k (k.wrap (BitVec.ofInt k.bits a &&& BitVec.ofInt k.bits b).toNat))
  | .or => some (.int k (k.wrap (BitVec.ofInt k.bits a ||| BitVec.ofInt k.bits b).toNat))
  | .xor => some (.int k (k.wrap (BitVec.ofInt k.bits a ^^^ BitVec.ofInt k.bits b).toNat))
  | .andNot => some (.int k (k.wrap (BitVec.ofInt k.bits a &&& ~~~ (BitVec.ofInt k.bits b)).toNat))
  | .eql => some (.bool (a == b))
  | .neq => some (.bool (a != b))
  | .lss => some (.bool (decide (a < b)))
  | .leq => some (.bool (decide (a ≤ b)))
  | .gtr => some (.bool (decide (a > b)))
  | .geq => some (.bool (decide (a ≥ b)))
  | _ => none

def valK (v : Val) : Prog := .ret v []

/-- '==' of leaves, one by one -/
def eqK : List Val → List Val → (Bool → Prog) → Prog
  | [], [], K => K true
  | .bool a :: xs, .bool b :: ys, K => eqK xs ys fun r => K ((a == b) && r)
  | .int k a :: xs, .int k' b :: ys, K => match decide (k = k') with
    | true => eqK xs ys fun r => K ((a == b) && r)
    | false => .fail
  | .str a :: xs, .str b :: ys, K => eqK xs ys fun r => K ((a.toList == b.toList) && r)
  | _, _, _ => .fail

def eqP (t : TD) (x y : Val) (K : Bool → Prog) : Prog :=
  match x, y with
  | .agg cs, .agg ds => match t.isAgg && t.flat && decide (t.depth ≤ 9000) && leafsB t.leafs cs && leafsB t.leafs ds with
    | true => eqK cs ds K
    | false => .fail
  | .nilp, .nilp => match t with | .ptr _ => K true | _ => .fail
  | .ptr .., .nilp => match t with | .ptr _ => K false | _ => .fail
  | .nilp, .ptr .. => match t with | .ptr _ => K false | _ => .fail
  | .nils, .nils => match t with | .slice .. => K true | _ => .fail
  | .emp, .nils => match t with | .slice .. => K false | _ => .fail
  | .row .., .nils => match t with | .slice .. => K false | _ => .fail
  | .ext _ n _, .nils => match t with | .slice .. => .need (0 < n) (K false) | _ => .fail
  | _, _ => .fail

def binP (t : TD) (op : BinOp) (x y : Val) : Prog :=
  match x, y with
  | .int k a, .int k' b =>
    match op with
    | .shl => .need (0 ≤ b) (valK (.int k (k.wrap (a * 2 ^ (min b.toNat k.bits)))))
    | .shr => .need (0 ≤ b) (valK (.int k (a.fdiv (2 ^ (min b.toNat k.bits)))))
    | .quo => .need (b ≠ 0) (match decide (k = k') with | true => valK (.int k (k.wrap (a.tdiv b))) | false => .fail)
    | .rem => .need (b ≠ 0) (match decide (k = k') with | true => valK (.int k (a.tmod b)) | false => .fail)
    | _ => match decide (k = k') with
      | true => match arith op k a b with | some v => valK v | none => .fail
      | false => .fail
  | .bool a, .bool b => match t with
    | .bool => match op with | .eql => valK (.bool (a == b)) | .neq => valK (.bool (!(a == b))) | _ => .fail
    | _ => .fail
  | .str a, .str b => match op with
    | .add => .need (a.size + b.size ≤ 9223372036854775807) (valK (.str (a ++ b)))
    | .eql => valK (.bool (a.toList == b.toList))
    | .neq => valK (.bool (!(a.toList == b.toList)))
    | .lss => valK (.bool (Op.bytesLess a.toList b.toList))
    | .leq => valK (.bool (Op.bytesLess a.toList b.toList || a.toList == b.toList))
    | .gtr => valK (.bool (!(Op.bytesLess a.toList b.toList || a.toList == b.toList)))
    | .geq => valK (.bool (!(Op.bytesLess a.toList b.toList)))
    | _ => .fail
  | x, y => match op with
    | .eql => eqP t x y fun r => valK (.bool r)
    | .neq => eqP t x y fun r => valK (.bool (!r))
    | _ => .fail

def unP (op : UnOp) (x : Val) : Prog :=
  match op, x with
  | .not, .bool b => valK (.bool (!b))
  | .neg, .int k n => valK (.int k (k.wrap (0 - n)))
  | .xor, .int k n => valK (.int k (k.wrap (BitVec.ofInt k.bits (if k.signed then -1 else k.max) ^^^ BitVec.ofInt k.bits n).toNat))
  | _, _ => .fail

def fromP (t : TD) (cs : List Val) (off : Nat) : Prog :=
  dropK cs off fun d => takeK d t.size fun c => match c.length == t.size with
    | true => wrapVal t c valK
    | false => .fail
def loadP (t : TD) (a : Val) : Prog :=
  match a with
  | .ptr b off => .get b fun x => match x with | .cells cs => fromP t cs off | _ => .fail
  | .ep b sz i j => .get b fun x => match x with
    | .row _ sz' n g _ => .need (i < n) (match sz == sz' with | true => fromP t (g i) j | false => .fail)
    | _ => .fail
  | .rptr cs => fromP t cs 0
  | _ => .fail

def storeC (t : TD) (a : Val) (cs : List Val) : Prog :=
  match cs.length == t.size with
  | true => match a with
    | .ptr b off => .get b fun x => match x with
      | .cells old => match decide (off + cs.length ≤ old.length) with
        | true => splice old off cs fun new => .ret (.tup []) [(b, .cells new)]
        | false => .fail
      | _ => .fail
    | .ep b sz i j => .get b fun x => match x with
      | .row e sz' n g pr => .need (i < n ∧ pr ≤ i) (match sz == sz' && closedL cs && decide (j + cs.length ≤ sz) with
        | true => .ret (.tup []) [(b, .row e sz n (fun k => if k = i then (g i).take j ++ cs ++ (g i).drop (j + cs.length) else g k) pr)]
        | false => .fail)
      | _ => .fail
    | _ => .fail
  | false => .fail
def storeP (t : TD) (a v : Val) : Prog :=
  match v with
  | .und | .tup _ => .fail
  | .agg cs => storeC t a cs
  | v => storeC t a [v]

def fieldAddrP (t : TD) (x : Val) (f : Nat) : Prog :=
  match t with
  | .struct fs => match fieldAt fs f 0 with
    | some (o, d) => match d.size with
      | 0 => .fail
      | _ + 1 => match x with
        | .ptr b off => valK (.ptr b (off + o))
        | .ep b s i j => valK (.ep b s i (j + o))
        | .rptr cs => dropK cs o fun d => valK (.rptr d)
        | _ => .fail
    | none => .fail
  | _ => .fail
def fieldP (t : TD) (x : Val) (f : Nat) : Prog :=
  match t, x with
  | .struct fs, .agg cs => match fieldAt fs f 0 with
    | some (o, d) => fromP d cs o
    | none => .fail
  | _, _ => .fail
def indexAddrP (t : TD) (x i : Val) : Prog :=
  match i with
  | .int _ i => match t with
    | .arr n e => match x with
      | .ptr b off => .need (0 ≤ i ∧ i < n) (valK (.ptr b (off + i.toNat * e.size)))
      | .ep b s k j => .need (0 ≤ i ∧ i < n) (valK (.ep b s k (j + i.toNat * e.size)))
      | .rptr cs => .need (0 ≤ i ∧ i < n) (dropK cs (i.toNat * e.size) fun d => valK (.rptr d))
      | _ => .fail
    | .slice _ sz _ => match x with
      | .ext s n g => .need (0 ≤ i ∧ i < n) (match s == sz with | true => valK (.rptr (g i.toNat)) | false => .fail)
      | .row b n => .need (0 ≤ i ∧ i < n) (valK (.ep b sz i.toNat 0))
      | _ => .fail
    | _ => .fail
  | _ => .fail
/-- byte i of a string -/
def bt (s : ByteArray) (i : Int) : Int := match s.data.toList[i.toNat]? with
  | some b => b.toNat
  | none => 0
def indexP (t : TD) (x i : Val) : Prog :=
  match i with
  | .int _ i => match t, x with
    | .str, .str s => .need (0 ≤ i ∧ i < s.size) (valK (.int .u8 (bt s i)))
    | .arr n e, .agg cs => .need (0 ≤ i ∧ i < n) (fromP e cs (i.toNat * e.size))
    | _, _ => .fail
  | _ => .fail
def nthK : List Val → Nat → (Val → Prog) → Prog
  | [], _, _ => .fail
  | x :: _, 0, K => K x
  | _ :: l, n + 1, K => nthK l n K
def extractP (x : Val) (j : Nat) : Prog :=
  match x with
  | .tup vs => nthK vs j valK
  | _ => .fail
def fillK (place : Nat → Option (Nat × Nat)) (tm : List Val) : List Val → List (Nat × Operand) → (List Val → Prog) → Prog
  | cs, [], K => K cs
  | cs, (i, x) :: rest, K => evK tm x fun v => match v with
    | .und | .tup _ => .fail
    | v => match place i with
      | some (off, size) => match (cellsOf v).length == size && decide (off + size ≤ cs.length) with
        | true => splice cs off (cellsOf v) fun cs' => fillK place tm cs' rest K
        | false => .fail
      | none => .fail
def structPlace (fs : List TD) (i : Nat) : Option (Nat × Nat) :=
  match fieldAt fs i 0 with
  | some (o, d) => some (o, d.size)
  | none => none
def buildP (t : TD) (tm : List Val) (parts : List (Nat × Operand)) : Prog :=
  match t with
  | .struct fs => appK t.zero [] fun z => fillK (structPlace fs) tm z parts fun cs => valK (.agg cs)
  | .arr _ e => appK t.zero [] fun z => fillK (fun i => some (i * e.size, e.size)) tm z parts fun cs => valK (.agg cs)
  | _ => .fail
/-- a list cut into pieces of sz cells -/
def pieces (sz : Nat) : Nat → List Val → List (List Val)
  | 0, _ => []
  | n + 1, l => l.take sz :: pieces sz n (l.drop sz)
def buildSliceP (T : TypeId → TD) (t : TD) (len nid : Nat) (tm : List Val) (parts : List (Nat × Operand)) : Prog :=
  match t with
  | .slice e sz _ => nb (T e) fun d => match decide (0 < sz) && d.size == sz && decide (len * sz ≤ 16777216) with
    | true => appK (rep len d.zero) [] fun z => fillK (fun i => some (i * sz, sz)) tm z parts fun cs => match closedL cs with
      | true => .ret (.row nid len) [(nid, .row e sz len (fun i => (pieces sz len cs).getD i []) 0)]
      | false => .fail
    | false => .fail
  | _ => .fail
/-! maps -/
def tdLK : TD → Option LK
  | .bool => some .b
  | .int k => some (.i k)
  | .str => some .s
  | _ => none
def tdLKs : List TD → Option (List LK)
  | [] => some []
  | d :: ds => match tdLK d with
    | some l => match tdLKs ds with
      | some ls => some (l :: ls)
      | none => none
    | none => none
/-- what a map's keys look like: one cell, or a struct of such -/
def keyTd : TD → Option (Bool × List LK)
  | .struct fs => match tdLKs fs with
    | some ls => some (true, ls)
    | none => none
  | d => match tdLK d with
    | some l => some (false, [l])
    | none => none
def leafOf : Val → Option Leaf
  | .bool x => some (.b x)
  | .int k n => some (.i k n)
  | .str x => some (.s x)
  | _ => none
def leavesOf : List Val → Option (List Leaf)
  | [] => some []
  | v :: vs => match leafOf v with
    | some l => match leavesOf vs with
      | some ls => some (l :: ls)
      | none => none
    | none => none
def keyP (kag : Bool) (v : Val) (K : List Leaf → Prog) : Prog :=
  match kag, v with
  | true, .agg cs => match leavesOf cs with
    | some k => K k
    | none => .fail
  | false, v => match leafOf v with
    | some l => K [l]
    | none => .fail
  | _, _ => .fail
def makeMapP (T : TypeId → TD) (t : TD) (nid : Nat) (rv : Option Val) : Prog :=
  match t with
  | .map kt et => nb (T kt) fun kd => nb (T et) fun ed => match keyTd kd with
    | some (kag, ks) => match rv with
      | none => .ret (.map nid) [(nid, .map kag ed.isAgg ks [])]
      | some (.int _ _) => .ret (.map nid) [(nid, .map kag ed.isAgg ks [])]
      | some _ => .fail
    | none => .fail
  | _ => .fail
def outP (ok : Bool) (vag : Bool) (cs : List Val) (is : Bool) : Prog :=
  match ok, vag with
  | true, true => valK (.tup [.agg cs, .bool is])
  | false, true => valK (.agg cs)
  | ok, false => match cs with
    | [v] => match ok with
      | true => valK (.tup [v, .bool is])
      | false => valK v
    | _ => .fail
def lookupP (T : TypeId → TD) (t : TD) (m k : Val) (ok : Bool) : Prog :=
  match t with
  | .map kt et => nb (T kt) fun kd => nb (T et) fun ed => match keyTd kd with
    | some (kag, ks) => keyP kag k fun key => match decide (key.map Leaf.lk = ks) with
      | true => match m with
        | .nilm => outP ok ed.isAgg ed.zero false
        | .map b => .get b fun x => match x with
          | .map kag' vag' ks' es => match kag == kag' && ed.isAgg == vag' && decide (ks = ks') with
            | true => match mfind key es with
              | some cs => outP ok ed.isAgg cs true
              | none => outP ok ed.isAgg ed.zero false
            | false => .fail
          | _ => .fail
        | _ => .fail
      | false => .fail
    | none => .fail
  | _ => .fail
def cellsV (vag : Bool) (v : Val) (K : List Val → Prog) : Prog :=
  match vag, v with
  | true, .agg cs => K cs
  | false, .agg _ => .fail
  | false, .tup _ => .fail
  | false, .und => .fail
  | false, v => K [v]
  | _, _ => .fail
def mapUpdateP (T : TypeId → TD) (t : TD) (m k v : Val) : Prog :=
  match t with
  | .map kt et => nb (T kt) fun kd => match keyTd kd with
    | some (kag, ks) => keyP kag k fun key => match decide (key.map Leaf.lk = ks) with
      | true => match m with
        | .map b => .get b fun x => match x with
          | .map kag' vag ks' es => match kag == kag' && decide (ks = ks') with
            | true => cellsV vag v fun cs => match closedL cs with
              | true => .ret (.tup []) [(b, .map kag' vag ks' (mput key cs es))]
              | false => .fail
            | false => .fail
          | _ => .fail
        | _ => .fail
      | false => .fail
    | none => .fail
  | _ => .fail
def makeSliceP (T : TypeId → TD) (t : TD) (nid : Nat) (l c : Val) : Prog :=
  match t, l, c with
  | .slice e sz by_, .int .i64 n, .int .i64 m => nb (T e) fun d => match decide (0 < sz) && d.size == sz && closedL d.zero with
    | true => .need (0 ≤ n ∧ n ≤ m ∧ m * by_ ≤ 140737488355328 ∧ m ≤ 4611686018427387904) (.ret (.row nid n.toNat) [(nid, .row e sz n.toNat (fun _ => d.zero) 0)])
    | false => .fail
  | _, _, _ => .fail

/-- A slice that is read: its elements. -/
def seenP (x : Val) (K : Nat → Nat → (Nat → List Val) → Prog) : Prog :=
  match x with
  | .nils | .emp => K 1 0 fun _ => []
  | .ext sz n g => K sz n g
  | .row b n => .get b fun y => match y with
    | .row _ sz m g _ => .need (n ≤ m) (K sz n g)
    | _ => .fail
  | _ => .fail
def isByte (l : List Val) : Prop := ∃ n : Int, l = [.int .u8 n]
def isByteB : List Val → Bool
  | [.int .u8 _] => true
  | _ => false
theorem isByteB_iff (l : List Val) : isByteB l = true ↔ isByte l := by
  unfold isByteB isByte
  split
  · simp
  · rename_i h
    constructor
    · intro e; cases e
    · rintro ⟨n, rfl⟩; exact absurd rfl (h n)
instance (l : List Val) : Decidable (isByte l) := decidable_of_iff _ (isByteB_iff l)
def byteOf (l : List Val) : UInt8 := match l with
  | [.int _ n] => UInt8.ofNat n.toNat
  | _ => 0
def bytesStr (n : Nat) (g : Nat → List Val) : ByteArray := ⟨((List.range n).map fun i => byteOf (g i)).toArray⟩
def strOfK : List Val → (List UInt8 → Prog) → Prog
  | [], K => K []
  | .int .u8 n :: l, K => strOfK l fun bs => K (UInt8.ofNat n.toNat :: bs)
  | _, _ => .fail
def convP (T : TypeId → TD) (a b : TD) (x : Val) : Prog :=
  match a, b, x with
  | .int _, .int k, .int _ n => valK (.int k (k.wrap n))
  | .str, .str, .str s => valK (.str s)
  | .str, .slice e 1 _, .str s => match T e with
    | .int .u8 => valK (.ext 1 s.size fun i => [.int .u8 (bt s i)])
    | _ => .fail
  | .slice e 1 _, .str, .asl bl off n => match T e with
    | .int .u8 => .get bl fun y => match y with
      | .cells cs => dropK cs off fun d => takeK d n fun c => match c.length == n with
        | true => strOfK c fun bs => valK (.str ⟨bs.toArray⟩)
        | false => .fail
      | _ => .fail
    | _ => .fail
  | .slice e 1 _, .str, x => match T e with
    | .int .u8 => seenP x fun sz n g => match sz == 1 with
      | true => .need (∀ i, i < n → isByte (g i)) (valK (.str (bytesStr n g)))
      | false => .fail
    | _ => .fail
  | _, _, _ => .fail

def boundK (o : Option Val) (d : Int) (K : Int → Prog) : Prog :=
  match o with
  | none => K d
  | some (.int _ n) => K n
  | some _ => .fail
def sliceP (t : TD) (x : Val) (lo hi mx : Option Val) : Prog :=
  match mx with
  | none => match x with
    | .str s => match t with
      | .str => boundK lo 0 fun l => boundK hi s.size fun h => .need (0 ≤ l ∧ l ≤ h ∧ h ≤ s.size) (valK (.str (s.extract l.toNat h.toNat)))
      | _ => .fail
    | .ext sz n g => match t with
      | .slice _ sz' _ => match sz == sz' with
        | true => boundK lo 0 fun l => boundK hi n fun h => .need (0 ≤ l ∧ l ≤ h ∧ h ≤ n) (valK (.ext sz (h.toNat - l.toNat) fun i => g (i + l.toNat)))
        | false => .fail
      | _ => .fail
    | .nils => match t with
      | .slice .. => boundK lo 0 fun l => boundK hi 0 fun h => .need (l = 0 ∧ h = 0) (valK .nils)
      | _ => .fail
    | .row b n => match t with
      | .slice _ sz' _ => .get b fun y => match y with
        | .row e sz m g pr => match sz == sz' with
          | true => boundK lo 0 fun l => boundK hi n fun h => .need (0 ≤ l ∧ l ≤ h ∧ h ≤ n ∧ n ≤ m) (.ret (.ext sz (h.toNat - l.toNat) fun i => g (i + l.toNat)) [(b, .row e sz m g (max pr h.toNat))])
          | false => .fail
        | _ => .fail
      | _ => .fail
    | .ptr b off => match t with
      | .arr n e => match e.size == 1 with
        | true => boundK lo 0 fun l => boundK hi n fun h => .need (0 ≤ l ∧ l < n ∧ l ≤ h ∧ h ≤ n) (valK (.asl b (off + l.toNat) (h.toNat - l.toNat)))
        | false => .fail
      | _ => .fail
    | _ => .fail
  | some (.int _ 0) => match lo, hi, t with   -- 's[:0:0]'
    | none, some (.int _ 0), .slice .. => match x with
      | .nils => valK .nils
      | .emp => valK .emp
      | .ext _ (_ + 1) _ => valK .emp
      | .row _ (_ + 1) => valK .emp
      | _ => .fail
    | _, _, _ => .fail
  | _ => .fail
def arrPtrP (t : TD) (x : Val) : Prog :=
  match t, x with
  | .arr n e, .asl b off m => match e.size == 1 with
    | true => .need (n ≤ m) (valK (.ptr b off))
    | false => .fail
  | _, _ => .fail

def appendP (T : TypeId → TD) (t : TD) (nid : Nat) (x y : Val) : Prog :=
  match t with
  | .slice e sz by_ => match decide (0 < sz) with
    | true => seenP y fun szy m gy => match x with
      | .nils => match m with
        | 0 => valK .nils
        | m + 1 => match T e with
          | .bad => .fail
          | _ => .need (szy = sz ∧ (m + 1) * by_ ≤ 140737488355328 ∧ m + 1 ≤ 4611686018427387904) (.ret (.row nid (m + 1)) [(nid, .row e sz (m + 1) gy 0)])
      | .emp => match m with
        | 0 => valK .emp
        | m + 1 => match T e with
          | .bad => .fail
          | _ => .need (szy = sz ∧ (m + 1) * by_ ≤ 140737488355328 ∧ m + 1 ≤ 4611686018427387904) (.ret (.row nid (m + 1)) [(nid, .row e sz (m + 1) gy 0)])
      | .row b n => .get b fun z => match z with
        | .row e' sz' n' g pr => match sz == sz' && e == e' && (match T e with | .bad => false | _ => true) with
          | true => .need ((m = 0 ∨ szy = sz) ∧ n = n' ∧ (n + m) * by_ ≤ 140737488355328 ∧ n + m ≤ 4611686018427387904)
              (.ret (.row nid (n + m)) [(b, .gone), (nid, .row e sz (n + m) (fun i => if i < n then g i else gy (i - n)) pr)])
          | false => .fail
        | _ => .fail
      | _ => .fail
    | false => .fail
  | _ => .fail
def lenP (t : TD) (x : Val) : Prog :=
  match t, x with
  | .str, .str s => valK (.int .i64 s.size)
  | .arr n _, _ => valK (.int .i64 n)
  | .slice .., .nils => valK (.int .i64 0)
  | .slice .., .emp => valK (.int .i64 0)
  | .slice .., .ext _ n _ => valK (.int .i64 n)
  | .slice .., .row _ n => valK (.int .i64 n)
  | .slice .., .asl _ _ n => valK (.int .i64 n)
  | .map .., .nilm => valK (.int .i64 0)
  | .map .., .map b => .get b fun x => match x with
    | .map _ _ _ es => valK (.int .i64 es.length)
    | _ => .fail
  | _, _ => .fail
def pickM : Bool → Int → Int → Int
  | true, a, b => if b > a then b else a
  | false, a, b => if b < a then b else a
def minP (mx : Bool) : Val → List Val → Prog
  | x, [] => valK x
  | .int k a, .int _ b :: r => minP mx (.int k (pickM mx a b)) r
  | _, _ => .fail
def builtinP (T : TypeId → TD) (b : Builtin) (ts : List TypeId) (nid : Nat) (xs : List Val) : Prog :=
  match b, ts, xs with
  | .append, [t, u], [x, y] => match t == u with
    | true => appendP T (T t) nid x y
    | false => .fail
  | .len, [t], [x] => lenP (T t) x
  | .min, _, .int k a :: r => minP false (.int k a) r
  | .max, _, .int k a :: r => minP true (.int k a) r
  | _, _, _ => .fail
def optK {α : Type} (tm : List Val) (x : Option Operand) (K : Option Val → α) : α :=
  match x with
  | none => K none
  | some x => evK tm x fun v => K (some v)

def pickP (t : Bool) (x y : Val) : Prog :=
  match x, y with
  | .bool p, .bool q => valK (.bool (cond t p q))
  | .int k p, .int k' q => match decide (k = k') with
    | true => valK (.int k (cond t p q))
    | false => .fail
  | x, y => match t with
    | true => valK x
    | false => valK y

def opP (T : TypeId → TD) (o : Oper) (tm : List Val) (nid : Nat) : Prog :=
  match o.op with
  | .move x | .assign x => evK tm x valK
  | .pick c a b => evK tm c fun v => match v with
    | .bool t => evK tm a fun x => evK tm b fun y => pickP t x y
    | _ => .fail
  | .alloc t => nb (T t) fun d => appK d.zero [] fun z => .ret (.ptr nid 0) [(nid, .cells z)]
  | .box _ x => evK tm x fun v => match v with
    | .agg cs => .ret (.ptr nid 0) [(nid, .cells cs)]
    | .und | .tup _ => .fail
    | v => .ret (.ptr nid 0) [(nid, .cells [v])]
  | .build t ps => nb (T t) fun d => buildP d tm ps.toList
  | .buildSlice t len ps => buildSliceP T (T t) len nid tm ps.toList
  | .load t a => nb (T t) fun d => evK tm a fun a => loadP d a
  | .store t a x => nb (T t) fun d => evK tm a fun a => evK tm x fun x => storeP d a x
  | .nilCheck x => evK tm x fun x => match x with
    | .ptr b o => valK (.ptr b o)
    | .ep b s i j => valK (.ep b s i j)
    | .rptr cs => valK (.rptr cs)
    | .fn f a c => valK (.fn f a c)
    | _ => .fail
  | .binOp op t x y _ => evK tm x fun x => evK tm y fun y => binP (T t) op x y
  | .unOp op _ x => evK tm x fun x => unP op x
  | .convert a b x => evK tm x fun x => convP T (T a) (T b) x
  | .sliceToArrayPointer t x => evK tm x fun x => arrPtrP (T t) x
  | .makeInterface t x => evK tm x fun x => match T t with
    | .iface | .bad => .fail
    | _ => valK (.ifc t x)
  | .makeFunc (.func f) a c => evsK tm a.toList fun a => evsK tm c.toList fun c => valK (.fn f a c)
  | .makeMap t rv => optK tm rv fun rv => makeMapP T (T t) nid rv
  | .lookup t x i ok => evK tm x fun x => evK tm i fun i => lookupP T (T t) x i ok
  | .mapUpdate t m k v => evK tm m fun m => evK tm k fun k => evK tm v fun v => mapUpdateP T (T t) m k v
  | .insert t m k v => evK tm m fun m => evK tm k fun k => evK tm v fun v => mapUpdateP T (T t) m k v
  | .makeSlice t l c => evK tm l fun l => evK tm c fun c => makeSliceP T (T t) nid l c
  | .slice t x lo hi mx => evK tm x fun x => optK tm lo fun lo => optK tm hi fun hi => optK tm mx fun mx => sliceP (T t) x lo hi mx
  | .fieldAddr t x f => evK tm x fun x => fieldAddrP (T t) x f
  | .field t x f => evK tm x fun x => fieldP (T t) x f
  | .indexAddr t x i => evK tm x fun x => evK tm i fun i => indexAddrP (T t) x i
  | .index t x i => evK tm x fun x => evK tm i fun i => indexP (T t) x i
  | .extract x j => evK tm x fun x => extractP x j
  | .call c => match c.callee with
    | .builtin b => evsK tm c.args.toList fun xs => builtinP T b c.argTypes.toList nid xs
    | _ => .fail
  | _ => .fail
end
end Go.AM
