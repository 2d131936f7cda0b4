/- Definitions, their sections by numbers, what names mean, kinds of expressions: as they are. -/
import Derived.Test.YtlbocjcponegcaaGreatAmHj
import Derived.Test.YtlbocjcponegcaaGreatAmTyp
set_option linter.unusedVariables false
set_option linter.unusedSimpArgs false
set_option maxRecDepth 100000
namespace Go.AM
inductive Sc where
  | mk (name : ByteArray) (max : Int) (items : List It) (kids : List Sc)
def Sc.name : Sc → ByteArray | .mk n _ _ _ => n
def Sc.max : Sc → Int | .mk _ m _ _ => m
def Sc.items : Sc → List It | .mk _ _ i _ => i
def Sc.kids : Sc → List Sc | .mk _ _ _ k => k
theorem Sc.kid_lt {x y : Sc} (h : y ∈ x.kids) : SizeOf.sizeOf y < SizeOf.sizeOf x := by
  cases x with
  | mk n m i ks =>
    have h : y ∈ ks := h
    have := List.sizeOf_lt_of_mem h
    simp only [Sc.mk.sizeOf_spec]
    omega
theorem Sc.ind {Q : Sc → Prop} (h : ∀ x, (∀ y ∈ x.kids, Q y) → Q x) (x : Sc) : Q x := h x fun y hy => Sc.ind h y
termination_by SizeOf.sizeOf x
decreasing_by exact Sc.kid_lt hy
mutual
def Sc.cells : Sc → List Val
  | .mk n m it ks => [.str n, .int .i64 m, eL 23 cIt it, .ext 4 ks.length (Sc.rows ks)]
def Sc.rows : List Sc → Nat → List Val
  | [], _ => []
  | x :: _, 0 => x.cells
  | _ :: r, i + 1 => Sc.rows r i
end
def cSc (x : Sc) : List Val := [.str x.name, .int .i64 x.max, eL 23 cIt x.items, .ext 4 x.kids.length (Sc.rows x.kids)]
theorem Sc.cells_eq : ∀ x : Sc, x.cells = cSc x | .mk .. => by unfold Sc.cells; rfl
theorem Sc.rows_ext : ∀ l : List Sc, ExtL cSc l.length (Sc.rows l) l
  | [] => ⟨rfl, fun i h => absurd h (by simp)⟩
  | x :: l => by
    obtain ⟨_, h⟩ := Sc.rows_ext l
    refine ⟨rfl, fun i hi => ?_⟩
    cases i with
    | zero => show Sc.rows (x :: l) 0 = _; unfold Sc.rows; exact x.cells_eq
    | succ i => show Sc.rows (x :: l) (i + 1) = _; unfold Sc.rows; exact h i (by simpa using hi)
/-- a section by its number -/
structure Se where
  par : Int
  dep : Int
  name : ByteArray
  max : Int
  items : List It
mutual
def flatS : Sc → List Se → Int → Int → List Se
  | .mk n m it ks, l, par, dep => if 64 ≤ l.length ∨ 16 < dep then l else flatL ks (l ++ [⟨par, dep, n, m, it⟩]) (l.length : Int) (dep + 1)
def flatL : List Sc → List Se → Int → Int → List Se
  | [], l, _, _ => l
  | k :: r, l, par, dep => flatL r (flatS k l par dep) par dep
end
/-- a page: its items are read by nobody here -/
structure Pg where
  name : ByteArray
  whn : Xp
  n : Nat
  g : Nat → List Val
structure Df where
  name : ByteArray
  root : Sc
  tabs : List Tb
  pages : List Pg
def Df.flat (d : Df) : List Se := flatS d.root [] (-1) 1
/-! ### what names mean -/
def It.reads (i : It) (name : ByteArray) : Prop := i.name = name ∧ (i.kind = 1 ∨ i.kind = 2)
instance (i : It) (name : ByteArray) : Decidable (i.reads name) := inferInstanceAs (Decidable (_ ∧ _))
/-! ### kinds -/
def nodesI (n : Int) : Int := IntKind.i64.wrap n
mutual
def nodesF : Xp → Int
  | .mk _ _ _ _ _ _ _ l => nodesL 1 l
def nodesL : Int → List Xp → Int
  | n, [] => n
  | n, x :: r => nodesL (nodesI (n + nodesF x)) r
end
end Go.AM

set_option linter.unusedVariables false
set_option linter.unusedSimpArgs false
set_option maxRecDepth 100000
namespace Go.AM
/-! ### names and aggregates -/
end Go.AM

